/- Plain: what follows by hints holds wherever the hints do. Plain: a right step. Plain: a checker of proofs: its entries, the last ID, what it reports; what a step does. package proof: a checker in memory; Proved, Last, Report, put. package proof: Report, put. -/
import Derived.Test.YtajbmjpodeilpaaGreatV106
import Derived.Test.YtajbmjpodeilpaaGreatV101
import Derived.Test.YtajbmjpodeilpaaGreatV102
namespace Go.Proofs.YtajbmjpodeilpaaGreat
open Go.RowKit
structure Way (P:Int→Prop):Prop where
 one: ∀y,litB y=true→P y→¬P (-y)
 all: ∀y,litB y=true→P y∨P (-y)
def Under (f:Int→Int) (P:Int→Prop):Prop:= ∀y,litB y=true→0<ofF f y→P y
theorem ofF_minus (f:Int→Int) {y:Int} (hy:litB y=true):ofF f (-y)= -ofF f y:=by
 unfold ofF
 rw[litG_minus hy,litV_negate]
 cases litG y <;> simp
theorem luk_cons (f:Int→Int) (k:Nat) (u l:Int) (r:List Int):lukGo f k u (l::r)=if 0<ofF f l then(1,0)else if ofF f l<0∨l=u then lukGo f k u r else if u=0 then lukGo f 3 l r else lukGo f 4 u r:=rfl
theorem luk_four {f:Int→Int}: ∀(c:List Int) (u:Int),u≠0→(lukGo f 4 u c).1≠3:=by
 intro c
 induction c with
 | nil=>
  intro u _
  show(4:Nat)≠3
  decide
 | cons l r ih=>
  intro u hu
  rw[luk_cons]
  by_cases h1:0<ofF f l
  ·rw[if_pos h1]
   decide
  ·rw[if_neg h1]
   by_cases h2:ofF f l<0∨l=u
   ·rw[if_pos h2]
    exact ih u hu
   ·rw[if_neg h2,if_neg hu]
    exact ih u hu
theorem luk_three {f:Int→Int}: ∀(c:List Int) (u:Int),u≠0→(lukGo f 3 u c).1=3→(lukGo f 3 u c).2=u∧∀y∈c,ofF f y<0∨y=u:=by
 intro c
 induction c with
 | nil=>exact fun u _ _=>⟨rfl,fun y hy=>by cases hy⟩
 | cons l r ih=>
  intro u hu h
  rw[luk_cons]at h⊢
  by_cases h1:0<ofF f l
  ·rw[if_pos h1]at h
   cases h
  ·rw[if_neg h1]at h⊢
   by_cases h2:ofF f l<0∨l=u
   ·rw[if_pos h2]at h⊢
    obtain⟨a,b⟩:=ih u hu h
    refine⟨a,fun y hy=>?_⟩
    rcases List.mem_cons.1 hy with e|hy
    ·rw[e];exact h2
    ·exact b y hy
   ·rw[if_neg h2,if_neg hu]at h
    exact absurd h (luk_four r u hu)
theorem luk_unit {f:Int→Int}: ∀(c:List Int),(∀y∈c,y≠0)→(lukGo f 2 0 c).1=3→(lukGo f 2 0 c).2∈c∧ofF f (lukGo f 2 0 c).2=0∧∀y∈c,ofF f y<0∨y=(lukGo f 2 0 c).2:=by
 intro c
 induction c with
 | nil=>
  intro _ h
  cases h
 | cons l r ih=>
  intro h0 h
  have hl:=h0 l List.mem_cons_self
  rw[luk_cons]at h⊢
  by_cases h1:0<ofF f l
  ·rw[if_pos h1]at h
   cases h
  ·rw[if_neg h1]at h⊢
   by_cases h2:ofF f l<0∨l=0
   ·rw[if_pos h2]at h⊢
    have h3:=h2.resolve_right hl
    obtain⟨a,b,d⟩:=ih (fun y hy=>h0 y (List.mem_cons_of_mem _ hy)) h
    refine⟨List.mem_cons_of_mem _ a,b,fun y hy=>?_⟩
    rcases List.mem_cons.1 hy with e|hy
    ·rw[e];exact .inl h3
    ·exact d y hy
   ·rw[if_neg h2,if_pos rfl]at h⊢
    obtain⟨a,b⟩:=luk_three r l hl h
    rw[a]
    refine⟨List.mem_cons_self,by omega,fun y hy=>?_⟩
    rcases List.mem_cons.1 hy with e|hy
    ·exact .inr e
    ·exact b y hy
theorem clauseB_lit {c:List Int} (h:clauseB c=true) {y:Int} (hy:y∈c):litB y=true:=by
 unfold clauseB at h
 rw[Bool.and_eq_true]at h
 exact List.all_eq_true.1 h.2 y hy
theorem litB_ne {y:Int} (h:litB y=true):y≠0:=((litB_iff y).1 h).1
section
variable {P:Int→Prop} {f:Int→Int}
theorem Under.put (h:Under f P) {x:Int} (hx:litB x=true) (hp:P x):Under (putF f x) P:=fun y hy h0=>by
 by_cases e:litV y=litV x
 ·rcases litV_two hx e.symm with e|e
  ·rw[e];exact hp
  ·rw[e,k_put_neg f hx]at h0
   omega
 ·rw[k_put_ne f e]at h0
  exact h y hy h0
theorem Under.zero:Under (fun _=>0) P:=fun y _ h=>by
 unfold ofF at h
 simp only at h
 split at h <;> omega
end
abbrev Ents:=List (Int×List Int)
def ratFol (es:Ents):List Int→List Int→List Int×Bool×Int×Nat
 | asg,[]=>(asg,false,0,0)
 | asg,id::r=>match getA es id with
  | none=>([],false,id,91)
  | some c=>match asgF asg with
   | none=>([],false,id,81)
   | some f=>if(lookF f c).1=2 then(asg,true,0,0)else if(lookF f c).1=3 then ratFol es (asg++ [(lookF f c).2]) r else([],false,id,81)
def candB (p:Int) (c:List Int):Bool:=c.contains (litN p)&& !alwL c
def restGo (p:Int) (asg:List Int):List Int→List Int→List Int×Bool
 | out,[]=>(out,true)
 | out,l::r=>if l=litN p then restGo p asg out r else if asg.contains l=true then([],false)else restGo p asg (out++ [litN l]) r
def ratWant (es:Ents) (p:Int):List Int:=(es.filter fun x=>candB p x.2).map Prod.fst
def ratIds (want:List Int):Int→List Int→Int×Nat
 | _,[]=>(0,0)
 | last,g::r=>if want.contains g=false∨g≤last then(g,92)else ratIds want g r
def ratGrp (es:Ents) (p:Int) (gs:List (Int×List Int)):Int×Nat:=match (ratWant es p).find? fun id=> !(gs.map Prod.fst).contains id with
 | some id=>(id,92)
 | none=>ratIds (ratWant es p) 0 (gs.map Prod.fst)
def ratLoop (es:Ents) (p:Int) (asg:List Int):List (Int×List Int)→Int×Nat
 | []=>(0,0)
 | g::r=>if(restGo p asg [] ((getA es g.1).getD [])).2=false then ratLoop es p asg r else
  if(ratFol es (asg++(restGo p asg [] ((getA es g.1).getD [])).1) g.2).2.2.2≠0 then(ratFol es (asg++(restGo p asg [] ((getA es g.1).getD [])).1) g.2).2.2 else
  if(ratFol es (asg++(restGo p asg [] ((getA es g.1).getD [])).1) g.2).2.1=false then(g.1,93)else ratLoop es p asg r
def ratP (es:Ents) (c hs:List Int) (gs:List (Int×List Int)):Nat×Int×Nat:=
 if alwL c=true then(1,0,0)else
 if(ratFol es (asmL c) hs).2.2.2≠0 then(0,(ratFol es (asmL c) hs).2.2)else
 if(ratFol es (asmL c) hs).2.1=true then(1,0,0)else
 match c with
 | []=>(0,0,82)
 | p::_=>if(ratGrp es p gs).2≠0 then(0,ratGrp es p gs)else if(ratLoop es p (ratFol es (asmL c) hs).1 gs).2≠0 then(0,ratLoop es p (ratFol es (asmL c) hs).1 gs)else(2,0,0)
section
variable {P:Int→Prop} {es:Ents}
theorem restGo_out (p:Int) (asg:List Int): ∀(c out:List Int),(restGo p asg out c).2=true→(restGo p asg out c).1=out++(c.filter fun l=>decide (l≠litN p)).map litN:=by
 intro c
 induction c with
 | nil=>intro out _;simp[restGo]
 | cons l r ih=>
  intro out h
  unfold restGo at h⊢
  split at h
  ·rename_i e
   rw[if_pos e,ih out h,List.filter_cons_of_neg (by simp[e])]
  ·rename_i e
   split at h
   ·cases h
   ·rename_i e2
    rw[if_neg e,if_neg e2,ih _ h,List.filter_cons_of_pos (by simp[e]),List.map_cons,List.append_assoc]
    rfl
end
end Go.Proofs.YtajbmjpodeilpaaGreat
namespace Go.Proofs.YtajbmjpodeilpaaGreat
def stepB (s:EStep):Bool:=
 !(decide (s.id<0)||decide (1073741824<s.id)||(!s.del&&decide (s.id=0))||(s.del&&decide (0<s.lits.length))) &&
 (clauseB s.lits&&decide (s.hints.length≤65536)&& !(s.hints.any fun h=>decide (h=0)||decide (1073741824<h)||decide (h< -1073741824)||(s.del&&decide (h<0))))
end Go.Proofs.YtajbmjpodeilpaaGreat
namespace Go.Proofs.YtajbmjpodeilpaaGreat
open Go.RowKit
structure Ckr where
 ents:Ents
 last:Int
 proved:Bool
 adds:Int
 dels:Int
 rats:Int
 largest:Int
def ckr0:Ckr:=⟨[],0,false,0,0,0,0⟩
def Ckr.put (k:Ckr) (id:Int) (c:List Int):Ckr:=
 ⟨putA k.ents id c,id,k.proved||c.isEmpty,k.adds,k.dels,k.rats,max k.largest (putA k.ents id c).length⟩
def Ckr.putAll (k:Ckr):Nat→List (List Int)→Ckr
 | _,[]=>k
 | i,c::r=>(k.put ((i:Int)+1) c).putAll (i+1) r
def ckrNew (cs:List (List Int)):Ckr:={ (ckr0.putAll 0 cs)with last:=cs.length }
def ckNamed (es:Ents):List Int→List (List Int)
 | []=> []
 | id::r=>match getA es id with
  | some c=>c::ckNamed es r
  | none=> []
def ckFol (es:Ents) (c hs:List Int):Bool×Int×Nat:=
 if(chkP c (ckNamed es hs)).2.2=0 then(true,0,0)else
 if(chkP c (ckNamed es hs)).2.2=81 then(false,hs.getD (chkP c (ckNamed es hs)).2.1 0,81)else
 if(ckNamed es hs).length<hs.length then(false,hs.getD (ckNamed es hs).length 0,91)else(false,0,0)
def splitGo:List Int→List (Int×List Int)→List Int→List Int×List (Int×List Int)
 | out,gs,[]=>(out,gs)
 | out,gs,h::r=>if h<0 then splitGo out (gs++ [(-h,[])]) r else
  match gs.getLast? with
  | some g=>splitGo out (gs.dropLast++ [(g.1,g.2++ [h])]) r
  | none=>splitGo (out++ [h]) gs r
def splitL (hs:List Int):List Int×List (Int×List Int):=splitGo [] [] hs
def ckAdd (es:Ents) (c hs:List Int):Nat×Int×Nat:=
 if(ckFol es c (splitL hs).1).2.2≠0 then(0,(ckFol es c (splitL hs).1).2)else
 if(ckFol es c (splitL hs).1).1=true then(1,0,0)else ratP es c (splitL hs).1 (splitL hs).2
def ckDel:Ents→List Int→Ents×Int×Nat
 | es,[]=>(es,0,0)
 | es,id::r=>if(getA es id).isNone=true then(es,id,91)else ckDel (delA es id) r
def Ckr.do_ (k:Ckr) (s:EStep):Ckr×Nat×Int×Nat:=
 if k.proved=true then(k,0,0,0)else
 if stepB s=false then(k,0,0,70)else
 if s.id<k.last∨s.id=k.last∧s.del=false then(k,0,s.id,100)else
 if s.del=true then(if(ckDel k.ents s.hints).2.2=0 then({ k with ents:=(ckDel k.ents s.hints).1,last:=s.id,dels:=k.dels+1 },0,0,0)else(k,0,(ckDel k.ents s.hints).2))else
 if(ckAdd k.ents s.lits s.hints).2.2≠0 then(k,0,(ckAdd k.ents s.lits s.hints).2)else
 ({ (k.put s.id s.lits)with adds:=k.adds+1,rats:=if(ckAdd k.ents s.lits s.hints).1=2 then k.rats+1 else k.rats },(ckAdd k.ents s.lits s.hints).1,0,0)
structure Ckr.Ok (k:Ckr) (N:Nat):Prop where
 rise:Rising k.ents
 ids: ∀p∈k.ents,1≤p.1∧p.1≤1073741824∧p.1≤k.last
 cls: ∀p∈k.ents,clauseB p.2=true
 last0:0≤k.last
 last1:k.last≤1073741824
 len:k.ents.length≤N
 prv:k.proved=k.ents.any (fun p=>p.2.isEmpty)∨k.proved=false
 adds:0≤k.adds∧k.adds≤N
 dels:0≤k.dels∧k.dels≤N
 rats:0≤k.rats∧k.rats≤N
 larg:0≤k.largest∧k.largest≤N
end Go.Proofs.YtajbmjpodeilpaaGreat
namespace Go.Proofs.YtajbmjpodeilpaaGreat
open Go.RowKit Go.Maps
theorem wp_putK_at {P:Program} {kt t et:TypeId} {w:World} {b:Nat} {m:List (Int×Value)} {o:Oper} {a:Act} {K:Act→World→Prop} {Q:Exit→Act→World→Prop} (h:MapS P kt w b m) (KK:Keyed P kt) (hk:P.underlying kt=some (.int .i64)) (ht:P.underlying t=some (.map kt et))
  (mm x v:Operand) (hop:o.op=Op.mapUpdate t mm x v) (hm:a.eval mm= .map (some b)) (hn:m.length<maxLen) (i:Int) (y:Value) (hx:a.eval x= .int .i64 i) (hv:a.eval v=y) (hi:(Lit.int .i64 i).wf=true)
  (hK: ∀w',MapS P kt w' b (putA m i y)→w.grownBy w' (some b)→K (a.put o.dst undef) w'):Oper.wp P o a w K Q:=by
 obtain⟨w',hr,h2,h3⟩:=h.update KK hk ht hn hi y
 unfold Oper.wp execOp
 simp only[hop,hm,hx,hv,Sem.run_bind,Sem.run_pure,Result.andThen_ok,hr]
 exact hK w' h2 h3
theorem map_not_cells {P:Program} {kt:TypeId} {w:World} {b g:Nat} {m:List (Int×Value)} (h:MapS P kt w b m) {cs:Array Value} {t:TypeId} {f:Nat×Nat} (hg:w.heap[g]? =some (.cells cs t f)):g≠b:=by
 rintro rfl
 obtain⟨⟨es,cl,hb,_⟩,_⟩:=h
 rw[hg]at hb
 cases hb
abbrev MapI (w:World) (b:Nat) (m:List (Int×Value)):Prop:=MapS Tryz.prog 3 w b m
structure CkMem (X:Nat→Prop) (base:Nat) (w:World) (b mb:Nat) (k:Ckr) (K:List (Int×(Value×List Int))):Prop where
 bb:base≤b
 bm:base≤mb
 box:w.heap[b]? =some (.cells #[.map (some mb),.int .i64 k.last,.bool k.proved,.int .i64 k.adds,.int .i64 k.dels,.int .i64 k.rats,.int .i64 k.largest] 115 (0,0))
 map:MapI w mb (mapV Prod.fst K)
 ents:k.ents=mapV Prod.snd K
 row: ∀p∈K,w.ownsRow base 55 1 p.2.1 p.2.2.length (p.2.2.map (Value.int .i64))
 offb: ¬X b
 offm: ¬X mb
 off: ∀p∈K,∀g,p.2.1.ownBlock=some g→¬X g
def CkAtX (X:Nat→Prop) (base:Nat) (w:World) (b:Nat) (k:Ckr):Prop:= ∃mb K,CkMem X base w b mb k K
abbrev CkAt (base:Nat) (w:World) (b:Nat) (k:Ckr):Prop:=CkAtX (fun _=>False) base w b k
section
variable {X:Nat→Prop} {base:Nat} {w w':World} {b mb:Nat} {k:Ckr} {K:List (Int×(Value×List Int))}
theorem CkMem.kept {O:Nat→Prop} (h:CkMem X base w b mb k K) (q:Kept O w w') (hO: ∀g,base≤g→¬O g):CkMem X base w' b mb k K where
 bb:=h.bb
 bm:=h.bm
 box:=(q.block b (heap_lt h.box) (hO b h.bb)).trans h.box
 map:=h.map.kept q (hO mb h.bm)
 ents:=h.ents
 row:=fun p hp=>own_kept (h.row p hp) q (fun g hg=>hO g (own_lt (h.row p hp) g hg).1)
 offb:=h.offb
 offm:=h.offm
 off:=h.off
theorem CkMem.below (h:CkMem X base w b mb k K) (q:Below w.heap.size w w'):CkMem X base w' b mb k K:=
 h.kept (O:=fun _=>False) (Kept.of_below q) (fun _ _ h=>h)
theorem CkAtX.below (h:CkAtX X base w b k) (q:Below w.heap.size w w'):CkAtX X base w' b k:=by
 obtain⟨mb,K,h⟩:=h
 exact⟨mb,K,h.below q⟩
theorem CkAt.below (h:CkAt base w b k) (q:Below w.heap.size w w'):CkAt base w' b k:=CkAtX.below h q
theorem CkAtX.at_ (h:CkAtX X base w b k):CkAt base w b k:=by
 obtain⟨mb,K,h⟩:=h
 exact⟨mb,K,h.bb,h.bm,h.box,h.map,h.ents,h.row,fun h=>h,fun h=>h,fun _ _ _ _ h=>h⟩
theorem CkAt.fresh (h:CkAt base w b k) {Y:Nat→Prop} (hY: ∀g,Y g→w.heap.size≤g):CkAtX Y base w b k:=by
 obtain⟨mb,K,h⟩:=h
 exact⟨mb,K,h.bb,h.bm,h.box,h.map,h.ents,h.row,fun hb=>by have:=hY _ hb;have:=heap_lt h.box;omega,fun hb=>by have:=hY _ hb;have:=h.map.lt;omega,fun p hp g hg hb=>by have:=hY _ hb;have:=(own_lt (h.row p hp) g hg).2;omega⟩
theorem CkAtX.mut (h:CkAtX X base w b k) (q:Kept X w w'):CkAtX X base w' b k:=by
 obtain⟨mb,K,h⟩:=h
 exact⟨mb,K,h.bb,h.bm,(q.block b (heap_lt h.box) h.offb).trans h.box,h.map.kept q h.offm,h.ents,fun p hp=>own_kept (h.row p hp) q (h.off p hp),h.offb,h.offm,h.off⟩
theorem CkAtX.other (h:CkAtX X base w b k) {p:Nat} {cs:Array Value} {T:TypeId} (hp:w.heap[p]? =some (.cells cs T (0,0))) (h1:T≠55) (h2:T≠115) (q:Kept (fun g=>g=p) w w'):CkAtX X base w' b k:=by
 obtain⟨mb,K,h⟩:=h
 have hb:b≠p:=fun e=>by
  have:=h.box
  rw[e,hp]at this
  simp only[Option.some.injEq,Obj.cells.injEq]at this
  exact h2 this.2.1
 exact⟨mb,K,h.bb,h.bm,(q.block b (heap_lt h.box) hb).trans h.box,h.map.kept q (fun e=>map_not_cells h.map hp e.symm),h.ents,fun x hx=>own_kept (h.row x hx) q (fun g hg e=>mx_not (h.row x hx) hp h1 (by rw[←e];exact hg)),h.offb,h.offm,h.off⟩
theorem CkMem.ne (h:CkMem X base w b mb k K):b≠mb:=map_not_cells h.map h.box
theorem CkMem.notMap (h:CkMem X base w b mb k K) {n0 size n:Nat} {e:TypeId} {v:Value} {xs:List Value} (hr:w.ownsRow n0 e size v n xs) {g:Nat} (hg:v.ownBlock=some g):g≠mb:=by
 obtain⟨c,hc⟩:=own_type hr g hg
 exact map_not_cells h.map hc
theorem CkMem.rowIn (h:CkMem X base w b mb k K) {p:Int×(Value×List Int)} (hp:p∈K):IntsIn (fun g=>base≤g∧g≠b∧g≠mb) w p.2.1 p.2.2:=
 (IntsIn.of_own (h.row p hp)).mono fun g hg=>⟨hg.1,fun e=>mx_not (h.row p hp) h.box (by decide) (by rw[←e];exact hg.2),h.notMap (h.row p hp) hg.2⟩
theorem CkMem.grown (h:CkMem X base w b mb k K) {v:Value} {n0 size n:Nat} {e:TypeId} {xs:List Value} (hr:w.ownsRow n0 e size v n xs) (he:55≠e) (hc:115≠e) (hg:w.grownBy w' v.ownBlock):CkMem X base w' b mb k K where
 bb:=h.bb
 bm:=h.bm
 box:=(hg.block b (heap_lt h.box) (fun e2=>mx_not hr h.box hc e2.symm)).trans h.box
 map:=h.map.kept (Kept.grown hg) (fun e2=>h.notMap hr e2.symm rfl)
 ents:=h.ents
 row:=fun p hp=>own_kept (h.row p hp) (Kept.grown hg) (fun _ h1 h2=>mx_apart (h.row p hp) hr he h1 h2.symm)
 offb:=h.offb
 offm:=h.offm
 off:=h.off
theorem CkMem.cells (h:CkMem X base w b mb k K):w.cell? ⟨b,0,none⟩=some (.map (some mb))∧w.cell? ⟨b,1,none⟩=some (.int .i64 k.last)∧w.cell? ⟨b,2,none⟩=some (.bool k.proved)∧w.cell? ⟨b,3,none⟩=some (.int .i64 k.adds)∧w.cell? ⟨b,4,none⟩=some (.int .i64 k.dels)∧w.cell? ⟨b,5,none⟩=some (.int .i64 k.rats)∧w.cell? ⟨b,6,none⟩=some (.int .i64 k.largest):=
 ⟨mx_cell (j:=0) h.box,mx_cell (j:=1) h.box,mx_cell (j:=2) h.box,mx_cell (j:=3) h.box,mx_cell (j:=4) h.box,mx_cell (j:=5) h.box,mx_cell (j:=6) h.box⟩
theorem CkMem.free (h:CkMem X base w b mb k K) (j:Nat):w.frozen? ⟨b,j,none⟩=false:=by
 simp[World.frozen?,h.box]
theorem CkMem.len (h:CkMem X base w b mb k K):K.length=k.ents.length:=by rw[h.ents,mapV_length]
theorem CkMem.rise (h:CkMem X base w b mb k K):Rising K:=mapV_rising_of h.map.2.1
theorem CkMem.get (h:CkMem X base w b mb k K) (id:Int):getA k.ents id=(getA K id).map Prod.snd:=by rw[h.ents,mapV_get]
theorem CkMem.look (h:CkMem X base w b mb k K) {id:Int} (hid:(Lit.int .i64 id).wf=true) (c:Bool):(Instr.lookup 113 (.map (some mb)) (.int .i64 id) c).run Tryz.prog w= .ok (if c then .tuple #[((getA K id).map Prod.fst).getD (.slice none 0 0),.bool (getA K id).isSome]else((getA K id).map Prod.fst).getD (.slice none 0 0)) w:=by
 have:=h.map.look int_law Tryz.underlying3 Tryz.underlying113 (z:=.slice none 0 0) (by kernel_rfl) c hid
 rw[mapV_get,Option.isSome_map]at this
 exact this
theorem CkMem.set (h:CkMem X base w b mb k K) {k':Ckr} {j:Nat} {v:Value} (hb:(w.setCell ⟨b,j,none⟩ v).heap[b]? =some (.cells #[.map (some mb),.int .i64 k'.last,.bool k'.proved,.int .i64 k'.adds,.int .i64 k'.dels,.int .i64 k'.rats,.int .i64 k'.largest] 115 (0,0))) (he:k'.ents=k.ents):CkMem X base (w.setCell ⟨b,j,none⟩ v) b mb k' K:=by
 have hk:Kept (fun g=>g=b) w (w.setCell ⟨b,j,none⟩ v):=(Kept.refl (fun g=>g=b) w).setCell ⟨b,j,none⟩ v rfl
 exact {
  bb:=h.bb
  bm:=h.bm
  box:=hb
  map:=h.map.kept hk (fun e=>h.ne e.symm)
  ents:=by rw[he];exact h.ents
  row:=fun p hp=>own_kept (h.row p hp) hk (fun _ hg e=>mx_not (h.row p hp) h.box (by decide) (by rw[←e];exact hg))
  offb:=h.offb
  offm:=h.offm
  off:=h.off }
theorem CkMem.setBelow (h:CkMem X base w b mb k K) (j:Nat) (v:Value) (hb:base≤w.heap.size):Below base w (w.setCell ⟨b,j,none⟩ v):=
 ((Kept.refl (fun g=>g=b) w).setCell ⟨b,j,none⟩ v rfl).below (fun i e=>by rw[e];exact h.bb) hb
end
set_option maxHeartbeats 400000 in
theorem ck_proved {base:Nat} (b:Nat) (k:Ckr) (w:World) (h:CkAt base w b k):
  Calls Tryz.prog 36 #[.pointer (some ⟨b,0,none⟩)] w fun e w'=>e= .returned (.bool k.proved)∧w=w':=by
 obtain⟨mb,K,h⟩:=h
 obtain⟨-,-,c2,-⟩:=h.cells
 clear h
 go_enter Tryz.func36,Tryz.ntmps36
 go_wp2
 go_ret
 exact⟨rfl,rfl⟩
set_option maxHeartbeats 400000 in
theorem ck_last {base:Nat} (b:Nat) (k:Ckr) (w:World) (h:CkAt base w b k):
  Calls Tryz.prog 59 #[.pointer (some ⟨b,0,none⟩)] w fun e w'=>e= .returned (.int .i64 k.last)∧w=w':=by
 obtain⟨mb,K,h⟩:=h
 obtain⟨-,c1,-⟩:=h.cells
 clear h
 go_enter Tryz.func59,Tryz.ntmps59
 go_wp2
 go_ret
 exact⟨rfl,rfl⟩
def CkF (b:Nat) (w w':World):Prop:=Kept (fun g=>g=b∨∃o:Obj,w.heap[g]? =some o∧o.isCells=false) w w'
theorem CkF.of_below {b:Nat} {w w':World} (h:Below w.heap.size w w'):CkF b w w':=Kept.of_below h
theorem CkF.trans {b:Nat} {x y z:World} (h:CkF b x y) (k:CkF b y z):CkF b x z:=Kept.trans h k fun i hi ho=>by
 refine Classical.byContradiction fun hn=>?_
 rcases ho with ho|⟨o,h1,h2⟩
 ·exact hn (.inl ho)
 ·exact hn (.inr ⟨o,(h.block i hi hn).symm.trans h1,h2⟩)
theorem CkF.set (b:Nat) (w:World) (j:Nat) (v:Value):CkF b w (w.setCell ⟨b,j,none⟩ v):=((Kept.refl (fun g=>g=b) w).setCell ⟨b,j,none⟩ v rfl).mono fun _ _ e=>.inl e
theorem CkF.box {b:Nat} {w w':World} (h:Kept (fun g=>g=b) w w'):CkF b w w':=h.mono fun _ _ e=>.inl e
theorem CkF.map {b mb:Nat} {w w':World} {m:List (Int×Value)} (hm:MapI w mb m) (h:w.grownBy w' (some mb)):CkF b w w':=(Kept.grown h).mono fun i _ e=>by
 obtain⟨⟨es,cl,hb,_⟩,_⟩:=hm
 cases e
 exact .inr ⟨_,hb,rfl⟩
def Ckr.rep (k:Ckr):Value:=.agg #[.bool k.proved,.int .i64 k.adds,.int .i64 k.dels,.int .i64 k.rats,.int .i64 k.largest]
end Go.Proofs.YtajbmjpodeilpaaGreat
namespace Go.Proofs.YtajbmjpodeilpaaGreat
open Go.RowKit Go.Maps
theorem MapI.len {w:World} {b:Nat} {m:List (Int×Value)} (h:MapI w b m) (ty:TypeId):(Builtin.len_ #[113] ty #[.map (some b)]).run Tryz.prog w= .ok (.int .i64 (m.length:Nat)) w:=by
 have:=h.1.len Tryz.underlying113 ty
 rw[this]
 have e:Maps.size (DataW.map (encE m))=m.length:=encE_length m
 rw[e]
theorem free_at {w:World} {b j:Nat} {cs:Array Value} {t:TypeId} (h:w.heap[b]? =some (.cells cs t (0,0))):w.frozen? ⟨b,j,none⟩=false:=by
 simp[World.frozen?,h]
theorem five_setR {w5:World} {yb:Nat} {z0 z1 z2 z3 z4:Value} {t:TypeId} (hb:w5.heap[yb]? =some (.cells #[z0,z1,z2,z3,z4] t (0,0))) (a0 a1 a2 a3 a4:Value): ∃wy,(((((w5.setCell ⟨yb,0,none⟩ a0).setCell ⟨yb,1,none⟩ a1).setCell ⟨yb,2,none⟩ a2).setCell ⟨yb,3,none⟩ a3).setCell ⟨yb,4,none⟩ a4)=wy∧wy.heap[yb]? =some (.cells #[a0,a1,a2,a3,a4] t (0,0))∧Kept (fun g=>g=yb) w5 wy:=by
 refine⟨_,rfl,?_,?_⟩
 ·have h1:=mx_set hb (j:=0) a0
  have h2:=mx_set h1 (j:=1) a1
  have h3:=mx_set h2 (j:=2) a2
  have h4:=mx_set h3 (j:=3) a3
  have h5:=mx_set h4 (j:=4) a4
  exact h5
 ·exact(((((Kept.refl (fun g=>g=yb) w5).setCell ⟨yb,0,none⟩ a0 rfl).setCell ⟨yb,1,none⟩ a1 rfl).setCell ⟨yb,2,none⟩ a2 rfl).setCell ⟨yb,3,none⟩ a3 rfl).setCell ⟨yb,4,none⟩ a4 rfl
theorem res_rep {fn:Func} (h:fn.results= #[.cell 2 43]) {w:World} {r:Nat} {c0 c1 c2 c3 c4:Value} {t:TypeId} (hb:w.heap[r]? =some (.cells #[c0,c1,c2,c3,c4] t (0,0))) (tmps:Array Value) (t2:tmps[2]?.getD undef= .pointer (some ⟨r,0,none⟩)):
  (results fn tmps).run Tryz.prog w= .ok (.agg #[c0,c1,c2,c3,c4]) w:=by
 have p0:w.cell? ⟨r,0,none⟩=some c0:=mx_cell (j:=0) hb
 have p1:w.cell? ⟨r,1,none⟩=some c1:=mx_cell (j:=1) hb
 have p2:w.cell? ⟨r,2,none⟩=some c2:=mx_cell (j:=2) hb
 have p3:w.cell? ⟨r,3,none⟩=some c3:=mx_cell (j:=3) hb
 have p4:w.cell? ⟨r,4,none⟩=some c4:=mx_cell (j:=4) hb
 simp[results,h,go_sem,t2,p0,p1,p2,p3,p4]
set_option maxHeartbeats 1000000 in
theorem ck_report {base:Nat} (b:Nat) (k:Ckr) (w:World) (h:CkAt base w b k):
  Calls Tryz.prog 37 #[.pointer (some ⟨b,0,none⟩)] w fun e w'=>e= .returned k.rep∧Below w.heap.size w w':=by
 obtain⟨mb,K,h⟩:=h
 obtain⟨W,hW⟩: ∃W,w.alloc (.cells #[.bool false,.int .i64 0,.int .i64 0,.int .i64 0,.int .i64 0] 43)=W:=⟨_,rfl⟩
 have hb:Below w.heap.size w W:=by rw[←hW];exact mx_al _ _
 have hn:W.heap[w.heap.size]? =some (.cells #[.bool false,.int .i64 0,.int .i64 0,.int .i64 0,.int .i64 0] 43 (0,0)):=by rw[←hW];exact World.alloc_heap_new _ _
 obtain⟨-,-,c2,c3,c4,c5,c6⟩:=(h.below hb).cells
 have r0:W.cell? ⟨w.heap.size,0,none⟩=some (.bool false):=mx_cell (j:=0) hn
 have r1:W.cell? ⟨w.heap.size,1,none⟩=some (.int .i64 0):=mx_cell (j:=1) hn
 have r2:W.cell? ⟨w.heap.size,2,none⟩=some (.int .i64 0):=mx_cell (j:=2) hn
 have r3:W.cell? ⟨w.heap.size,3,none⟩=some (.int .i64 0):=mx_cell (j:=3) hn
 have r4:W.cell? ⟨w.heap.size,4,none⟩=some (.int .i64 0):=mx_cell (j:=4) hn
 have f0:=free_at (j:=0) hn
 have f1:=free_at (j:=1) hn
 have f2:=free_at (j:=2) hn
 have f3:=free_at (j:=3) hn
 have f4:=free_at (j:=4) hn
 obtain⟨wy,hwy,hby,hky⟩:=five_setR hn (.bool k.proved) (.int .i64 k.adds) (.int .i64 k.dels) (.int .i64 k.rats) (.int .i64 k.largest)
 have HB:=Lib.hid (hb.trans (hky.below (fun i e=>Nat.le_of_eq e.symm) hb.size))
 have HBY:=Lib.hid hby
 have HW:=Lib.hid hW
 have HWY:=Lib.hid hwy
 clear h hb hn hby hky hW hwy
 go_enter Tryz.func37,Tryz.ntmps37
 go_upto_region 1 with fail
 rw[HW.out]
 go_wp2_with fail
 rw[HWY.out]
 refine bodyPost_ret (res_rep rfl HBY.out _ rfl) rfl ?_
 exact⟨rfl,HB.out⟩
theorem CkMem.putMap {X:Nat→Prop} {base:Nat} {w w2 w3:World} {b mb:Nat} {k:Ckr} {K:List (Int×(Value×List Int))} (h:CkMem X base w b mb k K) (hbase:base≤w.heap.size) (hb:Below w.heap.size w w2) (id:Int) {c:List Int} {v:Value} (hv:w2.ownsRow w.heap.size 55 1 v c.length (c.map (Value.int .i64)))
  (hm:MapI w3 mb (putA (mapV Prod.fst K) id v)) (hg:w2.grownBy w3 (some mb)) (hX: ∀g,X g→g<w.heap.size):CkMem X base w3 b mb { k with ents:=putA k.ents id c } (putA K id (v,c)):=by
 have h2:=h.below hb
 have hk:=Kept.grown hg
 have hbl:=heap_lt h.box
 have hml:=h.map.lt
 exact {
  bb:=h.bb
  bm:=h.bm
  box:=(hk.block b (heap_lt h2.box) (fun e=>h.ne (Option.some.inj e))).trans h2.box
  map:=by rw[mapV_put];exact hm
  ents:=by
   show putA k.ents id c=_
   rw[h.ents,mapV_put]
  row:=fun p hp=>by
   rcases insA_mem.1 hp with rfl|hp
   ·exact own_mono (own_kept hv hk (fun _ hg2 e=>h2.notMap hv hg2 (Option.some.inj e))) hbase
   ·exact own_kept (h2.row p (delA_mem.1 hp).1) hk (fun _ hg2 e=>h2.notMap (h2.row p (delA_mem.1 hp).1) hg2 (Option.some.inj e))
  offb:=h.offb
  offm:=h.offm
  off:=fun p hp g hg hx=>by
   rcases insA_mem.1 hp with rfl|hp
   ·have:=hX g hx
    have:=(own_lt hv g hg).1
    omega
   ·exact h.off p (delA_mem.1 hp).1 g hg hx }
set_option maxRecDepth 100000 in
set_option maxHeartbeats 4000000 in
theorem ck_put {X:Nat→Prop} {base:Nat} {O:Nat→Prop} (b:Nat) (k:Ckr) (id:Int) (cv:Value) (c:List Int) (w:World) (h:CkAtX X base w b k) (hbase:base≤w.heap.size) (hid:(Lit.int .i64 id).wf=true) (hc:IntsIn O w cv c) (hcl:c.length≤4096) (hlen:k.ents.length≤1000000) (hX: ∀g,X g→g<w.heap.size:=by exact fun _ h=>h.elim):
  Calls Tryz.prog 52 #[.pointer (some ⟨b,0,none⟩),.int .i64 id,cv] w fun e w'=>e= .returned (.tuple #[])∧CkAtX X base w' b (k.put id c)∧Below base w w'∧CkF b w w':=by
 obtain⟨mb,K,h⟩:=h
 have HM:=Lib.hid h
 have HC:=Lib.hid hc
 have HKL:=Lib.hid h.len
 obtain⟨c0,-⟩:=h.cells
 have hbl:=heap_lt h.box
 obtain⟨Ac,cc,rfl,hcc,_⟩:=hc
 clear h
 go_enter Tryz.func52,Tryz.ntmps52
 go_upto_region 0 with fail
 refine wp_region_sink_at (fun w'=>Below w.heap.size w w') (by kernel_rfl) (by rfl) (by kernel_rfl) (mx_drew w) (fun hS=>?_)
 refine takeE 0 6 ?_
 refine takeE 1 7 ?_
 refine takeE 2 8 ?_
 refine takeF 3 9 (fun wq hSw=>(hSw.cell (p:=⟨b,0,none⟩) hbl).trans c0) ?_
 refine takeE 4 10 ?_
 refine takeE 5 11 ?_
 refine ready1 6 (fun KK hKK=>?_)
 go_simp
 refine(clone_c _ c _ (HC.out.below hS) (by omega)).mono ?_
 rintro e w2 ⟨v,rfl,hv,hb2⟩
 have hS2:=hS.trans (hb2.mono hS.size)
 have hv2:=own_mono hv hS.size
 refine hKK.out _ _ hS2 (fun _=>?_)
 clear hKK
 refine wpAnyH_done (by kernel_rfl) ?_ _
 refine lastPost_normal ?_
 refine wpOp_step rfl (fun KK hKK=>?_)
 rw[if_pos (by rfl)]
 refine wp_putK_at (HM.out.below hS2).map int_law Tryz.underlying3 Tryz.underlying113 _ _ _ rfl rfl (by rw[mapV_length,HKL.out];unfold maxLen;omega) id v rfl rfl hid ?_
 intro w3 hm3 hg3
 refine hKK _ _ ?_
 clear hKK
 have HM3:=Lib.hid (HM.out.putMap hbase hS2 id hv2 hm3 hg3 hX)
 have HF3:=Lib.hid ((CkF.of_below (b:=b) hS2).trans (CkF.map (HM.out.below hS2).map hg3))
 have HB3:=Lib.hid (below_kept (hS2.mono hbase) (Kept.grown hg3) (fun i e=>by rw[Option.some.inj e];exact HM.out.bm) (by have:=hS2.size;omega))
 clear hv hv2 hm3 hg3 hS hS2 hb2 c0 hbl HM HKL
 obtain⟨EE,hEE⟩: ∃EE,putA k.ents id c=EE:=⟨_,rfl⟩
 have HEL:=Lib.hid (show(mapV Prod.fst (putA K id (v,c))).length=EE.length from by
  have:=HM3.out.ents
  rw[mapV_length,←hEE]
  show _=(putA k.ents id c).length
  have h2:(putA k.ents id c).length=_:=congrArg List.length this
  rw[h2,mapV_length])
 have HEE:=Lib.hid hEE
 rw[hEE]at HM3
 obtain⟨KK,hKK⟩: ∃KK,putA K id (v,c)=KK:=⟨_,rfl⟩
 rw[hKK]at HM3 HEL
 clear hEE hKK
 have hx:=HM3.out.box
 have c1:=HM3.out.cells.2.1
 have f1:=HM3.out.free 1
 have hM4:CkMem X base (w3.setCell ⟨b,1,none⟩ (.int .i64 id)) b mb { k with ents:=EE,last:=id } KK:=HM3.out.set (by exact mx_set hx (j:=1) _) rfl
 have HB4:=Lib.hid (HB3.out.trans (HM3.out.setBelow 1 (.int .i64 id) (Nat.le_trans hbase (by have:=HB3.out.size;omega))))
 have HF4:=Lib.hid (HF3.out.trans (CkF.set b w3 1 (.int .i64 id)))
 obtain⟨w4,hw4⟩: ∃z,w3.setCell ⟨b,1,none⟩ (.int .i64 id)=z:=⟨_,rfl⟩
 rw[hw4]at hM4 HB4 HF4
 have HM4:=Lib.hid hM4
 have HW4:=Lib.hid hw4
 clear hM4 hw4 hx
 go_upto_region 2 with fail
 rw[HW4.out]
 clear HW4 f1 c1
 obtain⟨d0,-,-,-,-,-,d6⟩:=HM4.out.cells
 have hbl:=heap_lt HM4.out.box
 have hlen4:=HM4.out.map.len 3
 rw[HEL.out]at hlen4
 have HLEN:=Lib.hid (fun wq (hq:Below w4.heap.size w4 wq)=>show(Builtin.len_ #[113] 3 #[.map (some mb)]).run Tryz.prog wq= .ok (.int .i64 (EE.length:Nat)) wq from by
  have:=(HM4.out.below hq).map.len 3
  rwa [HEL.out]at this)
 clear hlen4
 refine wp_region_sink_at (fun w'=>Below w4.heap.size w4 w') (by kernel_rfl) (by rfl) (by kernel_rfl) (mx_drew w4) (fun hS=>?_)
 refine takeE 0 17 ?_
 refine takeE 1 18 ?_
 refine takeE 2 19 ?_
 refine takeE 3 20 ?_
 refine takeE 4 21 ?_
 refine takeF 5 22 (fun wq hSw=>(hSw.cell (p:=⟨b,6,none⟩) hbl).trans d6) ?_
 refine takeE 6 23 ?_
 refine takeE 7 24 ?_
 refine takeE 8 25 ?_
 refine takeF 9 26 (fun wq hSw=>(hSw.cell (p:=⟨b,0,none⟩) hbl).trans d0) ?_
 refine takeF 10 27 (fun wq hSw=>HLEN.out wq hSw) ?_
 refine takeE 11 28 ?_
 refine takeE 12 29 ?_
 refine takeE 13 30 ?_
 refine takeE 14 31 ?_
 obtain⟨LG,hLG⟩: ∃LG,max k.largest (EE.length:Int)=LG:=⟨_,rfl⟩
 have HLG:=Lib.hid hLG
 have HM5:=Lib.hid (HM4.out.below hS)
 have HF5:=Lib.hid (HF4.out.trans (CkF.of_below (b:=b) hS))
 have HB5:=Lib.hid (HB4.out.trans (hS.mono (Nat.le_trans hbase HB4.out.size)))
 clear hS d0 d6 hbl HM4 HB4 HB3 HM3
 refine wpAnyH_done (by kernel_rfl) ?_ _
 refine lastPost_normal ?_
 refine wpOp_step rfl (fun KX hKX=>?_)
 have c6:=HM5.out.cells.2.2.2.2.2.2
 have f6:=HM5.out.free 6
 have hx:=HM5.out.box
 have hM6:CkMem X base _ b mb { k with ents:=EE,last:=id,largest:=LG } KK:=HM5.out.set (j:=6) (v:=.int .i64 LG) (by exact mx_set hx (j:=6) _) rfl
 have hB6:=HB5.out.trans (HM5.out.setBelow 6 (.int .i64 LG) (Nat.le_trans hbase (by have:=HB5.out.size;omega)))
 have HF6:=Lib.hid (HF5.out.trans (CkF.set b w4.drew 6 (.int .i64 LG)))
 obtain⟨w6,hw6⟩: ∃z,w4.drew.setCell ⟨b,6,none⟩ (.int .i64 LG)=z:=⟨_,rfl⟩
 rw[hw6]at hM6 hB6 HF6
 have HM6:=Lib.hid hM6
 have HB6:=Lib.hid hB6
 clear hx hM6 hB6
 rw[hLG]
 go_simp
 refine hKX _ _ ?_
 clear hKX c6 f6 hLG hw6 HM5 HB5
 have c2:=HM6.out.cells.2.2.1
 have f2:=HM6.out.free 2
 have hx:=HM6.out.box
 obtain⟨pv,hpv⟩: ∃pv,k.proved=pv:=⟨_,rfl⟩
 obtain⟨ce,hce⟩: ∃ce,c.isEmpty=ce:=⟨_,rfl⟩
 have hM7:CkMem X base _ b mb { k with ents:=EE,last:=id,largest:=LG,proved:=pv||ce } KK:=HM6.out.set (j:=2) (v:=.bool (pv||ce)) (by exact mx_set hx (j:=2) _) rfl
 have hB7:=HB6.out.trans (HM6.out.setBelow 2 (.bool (pv||ce)) (Nat.le_trans hbase (by have:=HB6.out.size;omega)))
 have HFIN:=Lib.hid (show CkAtX X base (w6.setCell ⟨b,2,none⟩ (.bool (pv||ce))) b (k.put id c)∧Below base w (w6.setCell ⟨b,2,none⟩ (.bool (pv||ce)))∧CkF b w (w6.setCell ⟨b,2,none⟩ (.bool (pv||ce)))from by
  refine⟨⟨mb,KK,?_⟩,hB7,HF6.out.trans (CkF.set b w6 2 _)⟩
  have e:k.put id c= { k with ents:=EE,last:=id,largest:=LG,proved:=pv||ce }:=by
   unfold Ckr.put
   rw[HEE.out,HLG.out,hpv,hce]
  rw[e]
  exact hM7)
 simp only[hpv]at c2
 have hle:((c.length:Int)==0)=ce:=by
  rw[←hce]
  cases c with
  | nil=>rfl
  | cons a r=>simp;omega
 clear hM7 hB7 hx hpv hce HM6 HB6 HEE HLG HLEN HEL
 cases pv with
 | true=>
  go_wp2_with fail
  go_end0
  exact⟨rfl,HFIN.out⟩
 | false=>
  cases ce with
  | true=>
   go_wp2_with fail
   go_end0
   exact⟨rfl,HFIN.out⟩
  | false=>
   go_wp2_with fail
   go_end0
   exact⟨rfl,HFIN.out⟩
end Go.Proofs.YtajbmjpodeilpaaGreat
