/- package salvorlaw13: complete, failing, decide. Plain: decisions, and ways back. Plain: what a search keeps: decisions come first of their levels; a clause that is learned is added where all of its literals but one are false. package salvorlaw13: awake. package salvorlaw13: started. package salvorlaw14: a search in memory; Assigned, Begin. package salvorlaw14: Decide. What is used of Put (salvorlaw14), in every chapter that calls it. -/
import Derived.Test.YtoojmhjagipmdaaGreatV324
import Derived.Test.YtoojmhjagipmdaaGreatV319
import Derived.Test.YtoojmhjagipmdaaGreatV313
import Derived.Test.YtoojmhjagipmdaaGreatV315
import Derived.Test.YtoojmhjagipmdaaGreatV312
import Derived.Lib.SliceRun
namespace Go.Proofs.YtoojmhjagipmdaaGreat
open Go.RowKit
def decA (T:Trl) (y:Int):Trl:=if T.val y=0 then T.assigned y 0 else T
def decT (T:Trl) (l:Int):Trl:=decA T.push l
end Go.Proofs.YtoojmhjagipmdaaGreat
namespace Go.Proofs.YtoojmhjagipmdaaGreat
open Go.RowKit
section
variable {cs:List (List Int)} {T:Trl} {its:List RIt} {S:Wst}
theorem Has.two (h:Sim T its) {y:Int} (hy:litB y=true) (h1:Has its y) (h2:Has its (-y)):False:=by
 obtain⟨p,x,hp,e⟩:=h1
 obtain⟨q,z,hq,e2⟩:=h2
 have:=h.inj hp hq (by rw[e,e2,litV_negate])
 subst this
 rw[hp]at hq
 obtain rfl:=Option.some.inj hq
 have:=(litB_iff y).1 hy
 omega
theorem St.other (h:St (clsC cs) T its S) (hl:S.looked=its.length) {id:Int} {k:Kn} (hk:S.kn id=some k) {a:Int} (ha:a∈k.by_) (hf:Has its (-a)):Has its (k.other a):=by
 obtain⟨p,x,hp,e⟩:=hf
 have hpl:=(List.getElem?_eq_some_iff.1 hp).1
 obtain⟨q,y,hq,h1,_⟩:=h.inv.w id k a hk ha p x (by omega) hp e
 exact⟨q,y,hq,h1⟩
theorem Run.known (h:Run cs T its S) {id:Int} {c:List Int} (hc:clsC cs id=some c): ∃k,S.kn id=some k∧k.lits=eachL c:=by
 have hk:=h.kn id
 rw[hc]at hk
 obtain⟨k,hk⟩:=Option.isSome_iff_exists.1 hk
 obtain⟨d,hd,hl⟩:=h.st.inv.kn id k hk
 rw[hc]at hd
 obtain rfl:=Option.some.inj hd
 exact⟨k,hk,hl⟩
theorem Run.done (h:Run cs T its S) (h6:Six cs) {f:Int→Int} (hff: ∀y,litB y=true→((0<ofF f y↔Has its y)∧(ofF f y<0↔Has its (-y)))): ∀c∈cs,alwL c=true∨(lookF f c).1=1∨(lookF f c).1=4:=fun c hm=>by
 obtain⟨n,hn⟩:=List.getElem?_of_mem hm
 have hc:clsC cs ((n:Int)+1)=some c:=by
  unfold clsC
  rw[if_pos (by omega),show((n:Int)+1-1).toNat=n by omega]
  exact hn
 have hcb:=(h6.fit _ c hc).2.2
 cases hal:alwL c with
 | true=>exact .inl rfl
 | false=>
  right
  by_cases hex: ∃y∈c,0<ofF f y
  ·left
   rw[show lookF f c=(1,0)from k_hold hex _ _]
  ·right
   have hno: ∀y∈c,¬0<ofF f y:=fun y hy h=>hex ⟨y,hy,h⟩
   have hnh: ∀y∈c,¬Has its y:=fun y hy hh=>hno y hy ((hff y (hcb y hy).1).1.2 hh)
   obtain⟨k,hk,hkl⟩:=h.known hc
   obtain⟨_,hby,_,_⟩:=h.st.inv.bnd.kn hk
   rcases hby with h0|⟨p,q,hpq,hb,hp,hq⟩
   ·rcases h.st.inv.two _ k c hk hc h0 with h2|h2
    ·rw[hal]at h2;cases h2
    ·rw[hkl]at h2
     obtain⟨y,hy,hh⟩:=h.one _ c trivial hc hal h2
     exact absurd hh.has (hnh y hy)
   ·rw[hkl]at hp hq
    have hp':=eachL_mem.1 hp
    have hq':=eachL_mem.1 hq
    have hpm:p∈k.by_:=by rw[hb];simp
    have hqm:q∈k.by_:=by rw[hb];simp
    have op:k.other p=q:=by unfold Kn.other;rw[hb];simp
    have oq:k.other q=p:=by unfold Kn.other;rw[hb];simp[hpq]
    have zp:ofF f p=0:=by
     have: ¬ofF f p<0:=fun h2=>by
      have:=h.st.other h.lk hk hpm ((hff p (hcb p hp').1).2.1 h2)
      rw[op]at this
      exact hnh q hq' this
     have:=hno p hp'
     omega
    have zq:ofF f q=0:=by
     have: ¬ofF f q<0:=fun h2=>by
      have:=h.st.other h.lk hk hqm ((hff q (hcb q hq').1).2.1 h2)
      rw[oq]at this
      exact hnh p hp' this
     have:=hno q hq'
     omega
    rw[k_open hpq hp' hq' zp zq hno (fun y hy=>by
     have:=(litB_iff y).1 (hcb y hy).1
     omega)]
structure DecO (cs:List (List Int)) (T:Trl) (its:List RIt) (S:Wst) (l:Int) (R:Trl×Wst×Option Int) (its':List RIt):Prop where
 st:St (clsC cs) R.1 its' R.2.1
 pre:its <+: its'
 now:R.1.now=T.now+1
 kn: ∀j,(R.2.1.kn j).isSome=(clsC cs j).isSome
 one:One (clsC cs) (fun _=>True) its'
 has:Has its' l∨Has its (-l)
 src: ∀(p:Nat) (x:RIt),its'[p]? =some x→x.reason=0→Has its x.lit∨x.lit=l
 ok:R.2.2=none→Run cs R.1 its' R.2.1
 bad: ∀id,R.2.2=some id→∃c,clsC cs id=some c∧∀y∈c,Has its' (-y)
theorem dec_step (h:Run cs T its S) (h6:Six cs) {l:Int} (hl:litB l=true∧litV l<7): ∃its',DecO cs T its S l (propW (addAll arn0 0 cs) (decT T l) S) its':=by
 have hp:=h.st.push h.lk
 have key: ∃i1,St (clsC cs) (decT T l) i1 S∧its <+: i1∧(decT T l).now=T.now+1∧(Has i1 l∨Has its (-l))∧∀x∈i1,x.reason=0→Has its x.lit∨x.lit=l:=by
  have hold: ∀x∈its,Has its x.lit:=fun x hx=>by
   obtain⟨p,hp,e⟩:=List.getElem_of_mem hx
   exact⟨p,x,by rw[List.getElem?_eq_getElem hp,e],rfl⟩
  unfold decT decA
  by_cases hz:T.push.val l=0
  ·rw[if_pos hz]
   have herr:=free_err (T:=T.push) h.st.vars hl.1 hl.2 hz (r:=0) ⟨by omega,by omega⟩
   refine⟨_,hp.assign herr (fun h=>absurd rfl h),⟨_,rfl⟩,(assigned_now _ _ _).trans push_now,.inl ⟨its.length,⟨l,0,T.push.now⟩,by simp,rfl⟩,fun x hx _=>?_⟩
   rcases List.mem_append.1 hx with hx|hx
   ·exact .inl (hold x hx)
   ·rw[List.mem_singleton.1 hx]
    exact .inr rfl
  ·rw[if_neg hz]
   refine⟨its,hp,List.prefix_refl _,push_now,?_,fun x hx _=>.inl (hold x hx)⟩
   by_cases h1:T.push.fal l=true
   ·exact .inr ((hp.sim.fal_iff hl.1).1 h1)
   ·by_cases h2:T.push.tru l=true
    ·exact .inl ((hp.sim.tru_iff hl.1).1 h2)
    ·exact absurd (sim_val (Bool.not_eq_true _▸h1) (Bool.not_eq_true _▸h2)) hz
 obtain⟨i1,hs1,hp1,hn1,hh1,hz1⟩:=key
 obtain⟨its',h1,h2,h3,h4,h5⟩:=hs1.prop (A:=addAll arn0 0 cs) h6.fit (h.st.find h6)
 have hpz:=PZ.propGo (B:=fun y=>Has its y∨y=l) (A:=addAll arn0 0 cs) ((decT T l).vars.length+1) hs1.inv.bnd hs1.inv.link ⟨i1,hs1.sim⟩ ⟨i1,hs1.sim,hz1⟩
 have hkn: ∀j,((propW (addAll arn0 0 cs) (decT T l) S).2.1.kn j).isSome=(clsC cs j).isSome:=fun j=>(h4 j).trans (h.kn j)
 have hone:=(h.one.pre hp1).pre h2
 refine⟨its',h1,hp1.trans h2,h3.trans hn1,hkn,hone,hh1.imp_left (Has.pre h2),fun p x hx h0=>?_,fun hr=>?_,fun id hr=>?_⟩
 ·obtain⟨i2,a1,a2⟩:=hpz
  have:its'=i2:=h1.sim.uniq a1
  subst this
  exact a2 x (List.mem_of_getElem? hx) h0
 ·rcases h5 with⟨_,h5⟩|⟨id,c,h5,_⟩
  ·exact⟨h1,hkn,hone,h5⟩
  ·rw[hr]at h5;cases h5
 ·rcases h5 with⟨h5,_⟩|⟨id',c,h5,hc,hf⟩
  ·rw[hr]at h5;cases h5
  ·rw[hr]at h5
   obtain rfl:=Option.some.inj h5
   exact⟨c,hc,hf⟩
def backS (T:Trl) (S:Wst) (j:Int):Wst:=⟨S.known,S.of,min S.looked (T.backed j).order.length⟩
end
end Go.Proofs.YtoojmhjagipmdaaGreat
namespace Go.Proofs.YtoojmhjagipmdaaGreat
open Go.RowKit
section
variable {C:Int→Option (List Int)} {T:Trl} {its:List RIt} {S:Wst}
theorem Dcs.pre {its':List RIt} (h:Dcs its') (hp:its <+: its'):Dcs its:=fun p x hx h0=>by
 obtain⟨h1,h2⟩:=h p x (pre_get hp hx) h0
 exact⟨h1,fun q y hq hy=>h2 q y hq (pre_get hp hy)⟩
theorem Dcs.snoc (h:Dcs its) {x:RIt} (hx:x.reason=0→1≤x.level∧∀y∈its,y.level<x.level):Dcs (its++ [x]):=fun p z hz h0=>by
 have hpre:its <+: its++ [x]:=⟨[x],rfl⟩
 rcases Nat.lt_or_ge p its.length with hp|hp
 ·rw[List.getElem?_append_left hp]at hz
  obtain⟨h1,h2⟩:=h p z hz h0
  exact⟨h1,fun q y hq hy=>h2 q y hq (by rwa [List.getElem?_append_left (by omega)]at hy)⟩
 ·have h1:=(List.getElem?_eq_some_iff.1 hz).1
  rw[List.length_append,List.length_singleton]at h1
  obtain rfl:p=its.length:=by omega
  rw[List.getElem?_append_right (Nat.le_refl _),Nat.sub_self]at hz
  obtain rfl:x=z:=by simpa using hz
  obtain⟨a1,a2⟩:=hx h0
  exact⟨a1,fun q y hq hy=>by
   rw[List.getElem?_append_left hq]at hy
   exact a2 y (List.mem_of_getElem? hy)⟩
def DZ (T:Trl):Prop:= ∃its,Sim T its∧Dcs its
theorem DZ.assigned (h:DZ T) (l r:Int) (hr:r≠0):DZ (T.assigned l r):=by
 obtain⟨its,h1,h2⟩:=h
 by_cases he:T.assignErr l r=0
 ·exact⟨_,h1.snoc he,h2.snoc fun h0=>absurd h0 hr⟩
 ·have e:T.assigned l r=T:=by unfold Trl.assigned;rw[if_neg he]
  rw[e]
  exact⟨its,h1,h2⟩
theorem DZ.lookOne {A:Arn} (h:DZ T) (l id:Int) (hid:id≠0):DZ (lookOne A T S l id).1:=by
 unfold Proofs.YtoojmhjagipmdaaGreat.lookOne
 split
 ·exact h
 ·split
  ·exact h
  ·split
   ·exact h
   ·split
    ·exact h
    ·split
     ·exact h
     ·exact h.assigned _ _ hid
theorem DZ.lookGo {A:Arn} (l:Int) (ids:List Int): ∀{T:Trl} {S:Wst},(∀id∈ids,id≠0)→DZ T→DZ (lookGo A T S l ids).1:=by
 induction ids with
 | nil=>exact fun _ h=>h
 | cons id r ih=>
  intro T S hid h
  have h1:=h.lookOne (A:=A) (S:=S) l id (hid id List.mem_cons_self)
  rw[lookGo_cons]
  split
  ·exact h1
  ·exact ih (fun j hj=>hid j (List.mem_cons_of_mem _ hj)) h1
theorem DZ.propGo {A:Arn} (n:Nat): ∀{T:Trl} {S:Wst},S.Bnd→S.Link→(∃its,Sim T its)→DZ T→DZ (propGo A n T S).1:=by
 induction n with
 | zero=>exact fun _ _ _ h=>h
 | succ n ih=>
  intro T S hb hL hs h
  unfold Proofs.YtoojmhjagipmdaaGreat.propGo
  split
  ·exact h
  ·rename_i y hy
   have hr:=hb.row (litN y)
   have hg:=DZ.lookGo (A:=A) (S:=S) (litN y) (S.row (litN y)) (fun id hid=>by have:=(hr.2 id hid).1;omega) h
   have ha:=lookGo_all A (T:=T) (S.row (litN y)) hb hL hs (fun id hid=>hid) (up_nodup hr.1)
   split
   ·rename_i he
    rw[he]at hg
    exact hg
   ·rename_i T' S' he
    rw[he]at hg ha
    obtain⟨h1,h2,h3,_,_⟩:=ha
    exact ih (S:=S'.step) ⟨h1.kr,h1.kb,h1.kl,h1.orr,h1.ob⟩ h2 h3 hg
theorem DZ.dcs (h:DZ T) (hs:Sim T its):Dcs its:=by
 obtain⟨i2,h1,h2⟩:=h
 rw[hs.uniq h1]
 exact h2
theorem St.wide {C':Int→Option (List Int)} (h:St C T its S) (hC: ∀id c,C id=some c→C' id=some c):St C' T its S where
 sim:=h.sim
 vars:=h.vars
 sta:=h.sta
 inv:=by
  have hi:=h.inv
  have key: ∀id k c,S.kn id=some k→C' id=some c→C id=some c:=fun id k c hk hc=>by
   obtain⟨d,hd,_⟩:=hi.kn id k hk
   rw[hC id d hd]at hc
   rw[←Option.some.inj hc]
   exact hd
  exact⟨hi.bnd,hi.link,fun id k hk=>(hi.kn id k hk).imp fun c hc=>⟨hC id c hc.1,hc.2⟩,fun id k c hk hc=>hi.two id k c hk (key id k c hk hc),fun id k c hk hc=>hi.alw id k c hk (key id k c hk hc),hi.w,hi.cur,hi.len,fun p x hx h0=>by
   obtain⟨d,h1,h2⟩:=hi.rs p x hx h0
   exact⟨d,hC _ d h1,h2⟩⟩
end
end Go.Proofs.YtoojmhjagipmdaaGreat
namespace Go.Proofs.YtoojmhjagipmdaaGreat
open Go.RowKit
theorem Lw.al {w0 w:World} {lab:Nat→Nat} {b ab tb:Nat} {A:Arn} {T:Trl} {S:Wst} (h:Lw w0 w lab b ab tb A T S) (o:Obj):Lw w0 (w.alloc o) lab b ab tb A T S:=h.below (mx_al _ _)
end Go.Proofs.YtoojmhjagipmdaaGreat
namespace Go.Proofs.YtoojmhjagipmdaaGreat
open Go.RowKit
structure Started (cs:List (List Int)) (w0 w:World) (lab:Nat→Nat) (b ab tb:Nat) (T:Trl) (its:List RIt) (S:Wst) (fl:Bool):Prop where
 lw:Lw w0 w lab b ab tb (addAll arn0 0 cs) T S
 st:St (clsC cs) T its S
 kn: ∀j,(S.kn j).isSome=(clsC cs j).isSome
 now:T.now=0
 ok:fl=false→Run cs T its S
 bad:fl=true→∃c∈cs,∀y∈c,Has its (-y)
 pz:PZ (fun _=>False) T
end Go.Proofs.YtoojmhjagipmdaaGreat
namespace Go.Proofs.YtoojmhjagipmdaaGreat
open Go.RowKit
structure Sr (cs:List (List Int)) (T:Trl) (its:List RIt) (S:Wst) (id:Int):Prop where
 st:St (clsC cs) T its S
 dcs:Dcs its
 ok:id=0→Run cs T its S
 bad:id≠0→∃c,clsC cs id=some c∧∀y∈c,Has its (-y)
 full:id≠0→T.now=0∨(∀j,(S.kn j).isSome=(clsC cs j).isSome)∧One (clsC cs) (fun _=>True) its
structure SrAt (w0 w:World) (lab:Nat→Nat) (sb b ab tb:Nat) (A:Arn) (T:Trl) (S:Wst) (cs:List (List Int)) (av:Value) (us:List Value):Prop where
 lw:Lw w0 w lab b ab tb A T S
 lab0:lab sb=0
 sbw:w0.heap.size≤sb
 box:w.heap[sb]? =some (.cells #[.pointer (some ⟨ab,0,none⟩),.pointer (some ⟨tb,0,none⟩),.pointer (some ⟨b,0,none⟩),av] 41 (0,0))
 row:w.ownsRow w0.heap.size 34 1 av cs.length us
 rlab: ∀g,av.ownBlock=some g→lab g=0∧g≠sb
 inn: ∀(i:Nat) (xs:List Int),cs[i]? =some xs→∃u,us[i]? =some u∧IntsIn (fun g=>lab g=0∧g≠sb∧av.ownBlock≠some g) w u xs
def SrNext (w0 w':World) (sb b ab tb:Nat) (A:Arn) (T:Trl) (S:Wst) (cs:List (List Int)):Prop:= ∃lab' av us,SrAt w0 w' lab' sb b ab tb A T S cs av us
section
variable {w0 w w':World} {lab:Nat→Nat} {sb b ab tb:Nat} {A A':Arn} {T T':Trl} {S S':Wst} {cs:List (List Int)} {av:Value} {us:List Value}
theorem SrAt.sblt (h:SrAt w0 w lab sb b ab tb A T S cs av us):sb<w.heap.size:=heap_lt h.box
theorem SrAt.below (h:SrAt w0 w lab sb b ab tb A T S cs av us) (k:Below w.heap.size w w'):SrAt w0 w' lab sb b ab tb A T S cs av us where
 lw:=h.lw.below k
 lab0:=h.lab0
 sbw:=h.sbw
 box:=(k.block _ h.sblt).trans h.box
 row:=own_below h.row k
 rlab:=h.rlab
 inn:=fun i xs hi=>by
  obtain⟨u,h1,h2⟩:=h.inn i xs hi
  exact⟨u,h1,h2.below k⟩
theorem SrAt.next (h:SrAt w0 w lab sb b ab tb A T S cs av us) (k:LwNext w0 w w' lab b ab tb A' T' S'): ∃lab',SrAt w0 w' lab' sb b ab tb A' T' S' cs av us:=by
 obtain⟨lab',h1,h2⟩:=k
 refine⟨lab',⟨h1,(h2.same _ h.sblt).trans h.lab0,h.sbw,(h2.kept.block _ h.sblt (by simp[h.lab0])).trans h.box,own_kept h.row h2.kept (fun g hg hn=>hn (h.rlab g hg).1),fun g hg=>⟨(h2.same g (own_lt h.row g hg).2).trans (h.rlab g hg).1,(h.rlab g hg).2⟩,fun i xs hi=>?_⟩⟩
 obtain⟨u,a1,a2⟩:=h.inn i xs hi
 refine⟨u,a1,(a2.lt.kept h2.kept (fun g hg hn=>hn hg.1.1)).mono (fun g hg=>⟨(h2.same g hg.2).trans hg.1.1,hg.1.2⟩)⟩
theorem SrAt.cells (h:SrAt w0 w lab sb b ab tb A T S cs av us):w.cell? ⟨sb,0,none⟩=some (.pointer (some ⟨ab,0,none⟩))∧w.cell? ⟨sb,1,none⟩=some (.pointer (some ⟨tb,0,none⟩))∧w.cell? ⟨sb,2,none⟩=some (.pointer (some ⟨b,0,none⟩))∧w.cell? ⟨sb,3,none⟩=some av:=(cells4 h.box).1
theorem SrAt.cls (h:SrAt w0 w lab sb b ab tb A T S cs av us):ClsIn (fun g=>lab g=0) w av cs:=by
 have hrow:=h.row
 have hinn:=h.inn
 have hrl:=h.rlab
 rcases hrow.2 with⟨rfl,h0⟩|⟨g,cap,cur,rfl,_,hg,hle,_⟩
 ·exact⟨none,0,by rw[h0],by omega,fun _=>rfl,fun i xs hi=>by
   have:=(List.getElem?_eq_some_iff.1 hi).1
   omega⟩
 ·refine⟨_,cap,rfl,hle,(fun h=>by cases h),fun i xs hi=>?_⟩
  obtain⟨u,hu,ho⟩:=hinn i xs hi
  exact⟨g,0,u,rfl,heap_lt hg,(hrl g rfl).1,by rw[Nat.zero_add];exact mx_at hrow hu,ho.mono (fun g hg=>hg.1)⟩
end
set_option maxRecDepth 100000 in
set_option maxHeartbeats 2000000 in
theorem law_assigned14 {O:Nat→Prop} (tb:Nat) (T:Trl) (w:World) (h:TrAt O w tb T) (hlen:T.order.length≤40):
  Calls Tryz.prog 15 #[.pointer (some ⟨tb,0,none⟩)] w fun e w'=> ∃v,e= .returned v∧w'.ownsRow w.heap.size 32 1 v T.order.length (T.order.map (Value.int .i64))∧Below w.heap.size w w':=by
 obtain⟨i0,hi,hz0,hz1,hz2⟩:=info_parts info_lit
 have HL:=Lib.hid (tr_len tb T w h)
 have HT:=Lib.hid h
 have hN:min (T.order.length:Int) (40:Int)=(T.order.length:Int):=by omega
 clear h
 go_enter Tryz.func15,Tryz.ntmps15
 go_wp2_with fail
 refine HL.out.mono ?_
 rintro e w' ⟨rfl,rfl⟩
 go_wp2_with fail
 go_loopw [3,10] (fun v i wr=> ∃k:Nat,k≤T.order.length∧i= .int .i64 k∧Hid (Below w.heap.size w wr)∧Hid (wr.ownsRow w.heap.size 32 1 v k ((T.order.take k).map (Value.int .i64)))) (fun _ i _=>T.order.length-(intOf i).toNat)
 case atStart=>exact⟨0,Nat.zero_le _,rfl,Lib.hid (Below.refl _ _),Lib.hid (World.ownsRow_nil _ _ _ _)⟩
 case round=>
  obtain⟨k,hk,rfl,HB,HR⟩:=hrel
  by_cases hlt:k<T.order.length
  ·obtain⟨x,hxk⟩:=getElem_of hlt
   have HAT:=Lib.hid (tr_at tb T k x wr (HT.out.below HB.out) hxk)
   have HXK:=Lib.hid hxk
   clear hxk
   go_wp2_with fail
   refine HAT.out.mono ?_
   rintro e w' ⟨rfl,rfl⟩
   go_wp2_with (at_builtin;refine wpList_append_own_at _ rfl _ _ 33 rfl w.heap.size 32 i0 (.int .i64 0) 1 8 Tryz.underlying33 hi hz0 hz1 hz2 rfl (by decide) _ k _ rfl (own_below HR.out (below_alloc1 wr _)) ⟨wr.heap.size,0,none⟩ 1 1 [.int .i64 x] rfl rfl (cell_one_new' _ _ _) (by simp[Value.oneCell']) (by unfold maxLen;omega) (by omega) (by have:=HB.out.size;simp;omega) ?_;intro v' w1 hown hgrow hnl hat)
   obtain⟨Av,kv,rfl,_⟩:=mx_slice hown
   have hb1:Below w.heap.size w w1:=(HB.out.trans ((below_alloc1 wr (.cells #[.int .i64 x] 32)).mono HB.out.size)).grown hgrow (by have:=HB.out.size;simp;omega) (fun g hg=>(own_lt HR.out g hg).1)
   have htk:(T.order.take (k+1)).map (Value.int .i64)=(T.order.take k).map (Value.int .i64)++ [.int .i64 x]:=by
    rw[List.take_add_one,HXK.out]
    simp
   have HO:=Lib.hid hown
   have HB1:=Lib.hid hb1
   have HTK:=Lib.hid htk
   clear hown hgrow hnl hat hb1 htk
   go_wp2
   go_roundw
   case rel=>exact⟨k+1,by omega,by go_num,HB1,Lib.hid (by rw[HTK.out];exact HO.out)⟩
   case measure=>simp[intOf];omega
  ·obtain rfl:k=T.order.length:=by omega
   have hro:=HR.out
   rw[List.take_length]at hro
   have HRO:=Lib.hid hro
   clear hro
   go_wp2_with fail
   go_ret
   exact⟨_,rfl,HRO.out,HB.out⟩
inductive AddO (c:List Int) (K:Nat) (its':List RIt):Prop
 | on (hk:K=1∨K=2∨K=4)
 | fails (hk:K=3) (hf: ∀y∈c,Has its' (-y))
theorem StartO.add {c:List Int} {K I:Nat} {U:Int} {T':Trl} {its':List RIt} (h:StartO c K I U T' its'):AddO c K its':=by
 rcases h with⟨_,a⟩|⟨_,a,_,f⟩|⟨_,a,_⟩|⟨_,a,_⟩
 ·exact .on (.inr (.inr a))
 ·exact .fails a f
 ·exact .on (.inr (.inl a))
 ·exact .on (.inl a)
theorem PZ.dcs {T:Trl} {its:List RIt} (h:PZ (fun _=>False) T) (hs:Sim T its):Dcs its:=fun p x hx h0=>by
 obtain⟨i2,h1,h2⟩:=h
 rw[hs.uniq h1]at hx
 exact(h2 x (List.mem_of_getElem? hx) h0).elim
set_option maxRecDepth 100000 in
set_option maxHeartbeats 8000000 in
theorem law_begin {O:Nat→Prop} (Ac:Option Addr) (cc:Nat) (cs:List (List Int)) (w:World) (hc:ClsAt w (.slice Ac cs.length cc) cs) (hi:ClsIn O w (.slice Ac cs.length cc) cs) (h6:Six cs):
  Calls Tryz.prog 11 #[.slice Ac cs.length cc] w fun e w'=> ∃sb b a t lab T its S id av us,e= .returned (.tuple #[.pointer (some ⟨sb,0,none⟩),.int .i64 id,.bool true])∧SrAt w w' lab sb b a t (addAll arn0 0 cs) T S cs av us∧Sr cs T its S id∧T.now=0:=by
 have hcl:=h6.1
 have HC:=Lib.hid hc
 have HI:=Lib.hid hi.lt
 have HPU:=Lib.hid (put_any 6 _ (.slice none 0 0) cs [] w (by decide) hc ⟨none,0,rfl,fun i a hi=>by simp at hi⟩ (by omega) (fun c hm=>by have:=(h6.right hm).2;omega) (by simp))
 clear hc hi
 go_enter Tryz.func11,Tryz.ntmps11
 go_wp2_with fail
 refine HPU.out.mono ?_
 rintro e w1 ⟨a,t,rfl,hp,hb1⟩
 obtain⟨A,hA⟩: ∃A,addAll arn0 0 cs=A:=⟨_,rfl⟩
 rw[hA]at hp
 have hp:PutAt w.heap.size w1 a t A (trl0 6):=hp
 have HA:=Lib.hid hA
 have HNW:=Lib.hid (wa_new_at hp)
 have HB1:=Lib.hid hb1
 clear hp hb1 HPU hA
 go_wp2_with fail
 refine HNW.out.mono ?_
 rintro e w2 ⟨b,lab,rfl,hs2,hge,hb2⟩
 have hlw:Lw w w2 lab b a t A (trl0 6) ⟨[],[],0⟩:=⟨hs2,hge,HB1.out.trans (hb2.mono HB1.out.size)⟩
 have HLW:=Lib.hid hlw
 obtain⟨us,hul,hus,hu1,hue⟩:=(HI.out.below hlw.hb).src
 have hAn:Ac=none→cs.length=0∧cc=0:=fun e=>by
  obtain⟨A2,c2,hv,h1,h2,_⟩:=HI.out
  simp only[Value.slice.injEq]at hv
  have:=h2 (hv.1▸e)
  have:=hv.2.2
  omega
 have HCR:=Lib.hid (clone_row Ac cs.length cc us w2 hus hAn hul hu1 (by omega))
 have HUE:=Lib.hid hue
 clear hs2 hge hb2 HNW HB1 hlw hul hus hu1 hue hAn
 go_wp2_with fail
 refine HCR.out.mono ?_
 rintro e w3 ⟨av,rfl,hrow,hb3⟩
 obtain⟨Av,cv,rfl,_⟩:=mx_slice hrow
 have hlw3:=HLW.out.below hb3
 obtain⟨w4,hw4⟩: ∃z,w3.alloc (.cells #[.pointer (some ⟨a,0,none⟩),.pointer (some ⟨t,0,none⟩),.pointer (some ⟨b,0,none⟩),.slice Av cs.length cv] 41)=z:=⟨_,rfl⟩
 have hb4:Below w3.heap.size w3 w4:=by rw[←hw4];exact mx_al _ _
 have hlt3: ∀g,lab g≠0→g<w2.heap.size:=HLW.out.sys.lt
 have hsr:SrAt w w4 lab w3.heap.size b a t A (trl0 6) ⟨[],[],0⟩ cs (.slice Av cs.length cv) us:={
  lw:=hlw3.below hb4
  lab0:=Classical.byContradiction fun h=>by have:=hlt3 _ h;have:=hb3.size;omega
  sbw:=hlw3.hb.size
  box:=by rw[←hw4];exact World.alloc_heap_new _ _
  row:=own_mono (own_below hrow hb4) HLW.out.hb.size
  rlab:=fun g hg=>by
   have h1:=own_lt hrow g hg
   exact⟨Classical.byContradiction fun h=>by have:=hlt3 _ h;omega,by omega⟩
  inn:=fun i xs hxi=>by
   obtain⟨u,h1,h2⟩:=HUE.out i xs hxi
   refine⟨u,h1,((h2.below hb3).below hb4).mono (fun g hg=>?_)⟩
   have hgw:=hg.2
   have:=HLW.out.hb.size
   have:=hb3.size
   refine⟨Classical.byContradiction fun h=>by have:=HLW.out.ge g h;omega,by omega,fun e=>?_⟩
   have:=(own_lt hrow g e).1
   omega }
 have HSR:=Lib.hid hsr
 have HBG:=Lib.hid (beg0 cs)
 obtain⟨sb,hsb⟩: ∃z,w3.heap.size=z:=⟨_,rfl⟩
 rw[hsb]at HSR
 have HW4:=Lib.hid hw4
 have HSB:=Lib.hid hsb
 clear hrow hb3 hlw3 hb4 hlt3 hsr HCR HUE HLW hw4 hsb
 go_wp2_with fail
 rw[HW4.out,HSB.out]
 go_wp2_with fail
 go_loopw [45] (fun i wr=> ∃(k:Nat) (labr:Nat→Nat) (T:Trl) (its:List RIt) (S:Wst),k≤cs.length∧i= .int .i64 k∧Hid (SrAt w wr labr sb b a t A T S cs (.slice Av cs.length cv) us)∧Hid (Beg cs k T its S false)) (fun i _=>cs.length-(intOf i).toNat)
 case atStart=>exact⟨0,lab,_,[],_,Nat.zero_le _,rfl,HSR,HBG⟩
 case round=>
  obtain⟨k,labr,T,its,S,hk,rfl,HL,HG⟩:=hrel
  by_cases hlt:k<cs.length
  ·obtain⟨c,hck⟩:=getElem_of hlt
   have hmem:=List.mem_of_getElem? hck
   have hrt:=h6.right hmem
   have hv7:=HG.out.st.vars
   have hsim:=HG.out.st.sim
   have hfew:=hsim.few hv7
   obtain⟨f,hf,hff⟩:=k_its (fun x hx=>hsim.litb hx) hsim.nodup
   have HNX:=Lib.hid (HG.out.next h6 hck hff)
   have HAG:=Lib.hid (show A.get ((k:Int)+1)=some c from by
    rw[←HA.out,get_cls h6]
    unfold clsC
    rw[if_pos (by omega),show((k:Int)+1-1).toNat=k by omega]
    exact hck)
   have HCC:=Lib.hid (show clsC cs ((k:Int)+1)=some c from by
    unfold clsC
    rw[if_pos (by omega),show((k:Int)+1-1).toNat=k by omega]
    exact hck)
   have HC7:=Lib.hid (h6.2 c hmem)
   have hwk:IntKind.i64.wrap ((k:Int)+1)=(k:Int)+1:=IntWalk.i64_in _ (by omega)
   have hadd:=lw_add HL.out.lw ((k:Int)+1) (wf64 (by omega) (by omega)) (fun d hd=>by
    rw[HAG.out]at hd
    rw[←Option.some.inj hd]
    exact⟨by have:=hrt.2;omega,hrt.1,by omega,by omega⟩) (by omega) HG.out.st.inv.link
   have hkn:S.kn ((k:Int)+1)=none:=by
    have:=HG.out.kn ((k:Int)+1)
    rw[decide_eq_false (by omega)]at this
    exact Option.isSome_eq_false_iff.1 this |> Option.isNone_iff_eq_none.1
   have hw:addW A T S ((k:Int)+1)=addOk T S ((k:Int)+1) c:=by
    unfold addW
    rw[hkn]
    simp only[]
    rw[HAG.out]
    simp only[]
    rw[if_neg (by
     rw[Bool.not_eq_true,List.any_eq_false]
     intro y hy
     have:=(HC7.out.2 y hy).2
     rw[decide_eq_true_eq]
     omega)]
   rw[hw,addOk_err]at hadd
   obtain⟨R,hR⟩: ∃R,addOk T S ((k:Int)+1) c=R:=⟨_,rfl⟩
   rw[hR]at hadd
   have hnx:=HNX.out
   rw[hR]at hnx
   obtain⟨K,T',S',hRK⟩: ∃K T' S',R.res=K∧R.T=T'∧R.S=S':=⟨_,_,_,rfl,rfl,rfl⟩
   rw[hRK.1,hRK.2.1,hRK.2.2]at hadd hnx
   obtain⟨its',hbeg,hso⟩:=hnx
   have HADD:=Lib.hid hadd
   have HBG':=Lib.hid hbeg
   have HSO:=Lib.hid hso.add
   clear hck hf hff hrt hsim hadd hkn hw hR hRK hbeg hso HNX
   go_wp2_with fail
   refine HADD.out.mono ?_
   rintro e w5 ⟨rfl,hl5⟩
   obtain⟨lab5,hl5⟩:=HL.out.next hl5
   have HL5:=Lib.hid hl5
   clear hl5 HADD
   rcases HSO.out with⟨hk3⟩|⟨rfl,hf⟩
   ·have q3:((K:Int)==3)=false:=by simp;omega
    have HBG2:=Lib.hid (show Beg cs (k+1) T' its' S' false from by
     have:=HBG'.out
     rwa [decide_eq_false (by omega)]at this)
    clear hk3 HSO
    go_wp2_with fail
    go_roundw
    case rel=>exact⟨k+1,lab5,T',its',S',by omega,by go_num,HL5,HBG2⟩
    case measure=>simp[intOf];omega
   ·have HFIN:=Lib.hid (show Sr cs T' its' S' ((k:Int)+1)from⟨HBG'.out.st,HBG'.out.pz.dcs HBG'.out.st.sim,fun h=>by omega,fun _=>⟨c,HCC.out,hf⟩,fun _=>.inl HBG'.out.now⟩)
    clear hf HSO
    go_wp2_with fail
    refine bodyPost_ret (v:=.tuple #[.pointer (some ⟨sb,0,none⟩),.int .i64 ((k:Int)+1),.bool true]) (by simp[results,Tryz.results11,go_sem]) rfl ?_
    exact⟨sb,b,a,t,lab5,T',its',S',(k:Int)+1,_,us,rfl,by rw[HA.out];exact HL5.out,HFIN.out,HBG'.out.now⟩
  ·obtain rfl:k=cs.length:=by omega
   obtain⟨its',hst',hpre,hnow,hkn,hres⟩:=HG.out.st.prop (A:=A) h6.fit (by rw[←HA.out];exact HG.out.st.find h6)
   have hpr:=lw_prop HL.out.lw HG.out.st.inv.link ⟨_,HG.out.st.sim⟩ (by rw[HG.out.st.vars];decide)
   have hpz:=PZ.propGo (A:=A) (T.vars.length+1) HG.out.st.inv.bnd HG.out.st.inv.link ⟨_,HG.out.st.sim⟩ HG.out.pz
   obtain⟨r,hr⟩: ∃r,(propW A T S).2.2=r:=⟨_,rfl⟩
   rw[hr]at hpr hres
   have hfr:(r.isSome==(r.getD 0 != 0))=true:=by
    cases r with
    | none=>rfl
    | some x=>
     rcases hres with⟨h,_⟩|⟨id,c,h1,h2,_⟩
     ·cases h
     ·obtain rfl:=Option.some.inj h1
      have:=(h6.fit x c h2).1.1
      have e:(x != 0)=true:=by simp;omega
      show(true==(x != 0))=true
      rw[e]
      rfl
   obtain⟨rs,hrs⟩: ∃rs,r.isSome=rs:=⟨_,rfl⟩
   obtain⟨rg,hrg⟩: ∃rg,r.getD 0=rg:=⟨_,rfl⟩
   obtain⟨T',hT'⟩: ∃T',(propW A T S).1=T':=⟨_,rfl⟩
   obtain⟨S',hS'⟩: ∃S',(propW A T S).2.1=S':=⟨_,rfl⟩
   rw[hT',hS']at hpr hst'
   rw[hT']at hnow
   rw[hS']at hkn hres
   have hdcs:Dcs its':=(show PZ (fun _=>False) T' from by rw[←hT'];exact hpz).dcs hst'.sim
   have hFIN:Sr cs T' its' S' rg:=by
    refine⟨hst',hdcs,fun h=>?_,fun h=>?_,fun _=>.inl (hnow.trans HG.out.now)⟩
    ·rcases hres with⟨h1,h2⟩|⟨id,c,h1,h2,_⟩
     ·exact⟨hst',fun j=>(hkn j).trans (HG.out.all j),HG.out.ones.pre hpre,h2⟩
     ·have:=(h6.fit id c h2).1.1
      rw[←hrg,h1]at h
      have h:id=0:=h
      omega
    ·rcases hres with⟨h1,_⟩|⟨id,c,h1,h2,h3⟩
     ·rw[←hrg,h1]at h
      exact absurd rfl h
     ·rw[←hrg,h1]
      exact⟨c,h2,h3⟩
   rw[hrs,hrg]at hpr hfr
   have HFIN:=Lib.hid hFIN
   have HNN:=Lib.hid (hnow.trans HG.out.now)
   have HPR:=Lib.hid hpr
   clear hst' hpre hnow hkn hres hpr hr hrs hrg hT' hS' HG hlt hpz hdcs hFIN
   go_wp2_with fail
   refine HPR.out.mono ?_
   rintro e w5 ⟨rfl,hl5⟩
   obtain⟨lab5,hl5⟩:=HL.out.next hl5
   have HL5:=Lib.hid hl5
   clear hl5 HPR HL
   go_wp2_with fail
   refine bodyPost_ret (v:=.tuple #[.pointer (some ⟨sb,0,none⟩),.int .i64 rg,.bool true]) (by simp[results,Tryz.results11,go_sem]) rfl ?_
   exact⟨sb,b,a,t,lab5,T',its',S',rg,_,us,rfl,by rw[HA.out];exact HL5.out,HFIN.out,HNN.out⟩
end Go.Proofs.YtoojmhjagipmdaaGreat
namespace Go.Proofs.YtoojmhjagipmdaaGreat
open Go.RowKit
section
variable {w0 w w':World} {lab:Nat→Nat} {sb b ab tb:Nat} {A A':Arn} {T T':Trl} {its:List RIt} {S S':Wst} {cs:List (List Int)} {av:Value} {us:List Value}
theorem sr_dec (hr:Sr cs T its S 0) (h6:Six cs) {l:Int} (hl:litB l=true∧litV l<7): ∃its',Sr cs (propW (addAll arn0 0 cs) (decT T l) S).1 its' (propW (addAll arn0 0 cs) (decT T l) S).2.1 ((propW (addAll arn0 0 cs) (decT T l) S).2.2.getD 0)∧(propW (addAll arn0 0 cs) (decT T l) S).1.now=T.now+1∧its <+: its'∧(Has its' l∨Has its (-l))∧∀id,(propW (addAll arn0 0 cs) (decT T l) S).2.2=some id→1≤id:=by
 have hrun:=hr.ok rfl
 obtain⟨its',hd⟩:=dec_step hrun h6 hl
 have hid: ∀id,(propW (addAll arn0 0 cs) (decT T l) S).2.2=some id→1≤id:=fun id h=>by
  obtain⟨c,hc,_⟩:=hd.bad id h
  exact(h6.fit id c hc).1.1
 have hp:=hr.st.push hrun.lk
 have hz:DZ (decT T l):=by
  unfold decT decA
  split
  ·rename_i hz
   have herr:=free_err (T:=T.push) hr.st.vars hl.1 hl.2 hz (r:=0) ⟨by omega,by omega⟩
   refine⟨_,hp.sim.snoc herr,hr.dcs.snoc fun _=>?_⟩
   have hn:=push_now (T:=T)
   have h0:=hr.st.sim.now
   show 1≤T.push.now∧∀y∈its,y.level<T.push.now
   exact⟨by omega,fun y hy=>by have:=(hr.st.sim.pos y hy).2;omega⟩
  ·exact⟨its,hp.sim,hr.dcs⟩
 have hsd: ∃i2,Sim (decT T l) i2:=hz.imp fun _ h=>h.1
 have hz2:=DZ.propGo (A:=addAll arn0 0 cs) ((decT T l).vars.length+1) (S:=S) hrun.st.inv.bnd hrun.st.inv.link hsd hz
 refine⟨its',⟨hd.st,hz2.dcs hd.st.sim,fun h=>hd.ok ?_,fun h=>?_,fun _=>.inr ⟨hd.kn,hd.one⟩⟩,hd.now,hd.pre,hd.has,hid⟩
 ·cases hq:(propW (addAll arn0 0 cs) (decT T l) S).2.2 with
  | none=>rfl
  | some x=>
   rw[hq]at h
   have:=hid x hq
   have h:x=0:=h
   omega
 ·cases hq:(propW (addAll arn0 0 cs) (decT T l) S).2.2 with
  | none=>rw[hq]at h;exact absurd rfl h
  | some x=>exact hd.bad x hq
set_option maxRecDepth 100000 in
set_option maxHeartbeats 4000000 in
theorem law_decide14 (l:Int) (h:SrAt w0 w lab sb b ab tb (addAll arn0 0 cs) T S cs av us) (hr:Sr cs T its S 0) (h6:Six cs) (hl:litB l=true∧litV l<7) (hn:T.now≤1000):
  Calls Tryz.prog 13 #[.pointer (some ⟨sb,0,none⟩),.int .i64 l] w fun e w'=> ∃lab' T' its' S' id,e= .returned (.tuple #[.int .i64 id,.bool true])∧SrAt w0 w' lab' sb b ab tb (addAll arn0 0 cs) T' S' cs av us∧Sr cs T' its' S' id∧T'.now=T.now+1∧its <+: its'∧(Has its' l∨Has its (-l)):=by
 obtain⟨its',hd,hnow,hpre,hhas,hid⟩:=sr_dec hr h6 hl
 have hv:=hr.st.vars
 have hL:=hr.st.inv.link
 have HPU:=Lib.hid (lw_push h.lw (by have:=now_eq (T:=T);omega))
 have hs1:=hr.st.sim.pushT
 obtain⟨A,hA⟩: ∃A,addAll arn0 0 cs=A:=⟨_,rfl⟩
 rw[hA]at h hd hid hnow HPU⊢
 obtain⟨R,hR⟩: ∃R,propW A (decT T l) S=R:=⟨_,rfl⟩
 rw[hR]at hid hd hnow
 obtain⟨R1,R2,r,rfl⟩: ∃R1 R2 r,R=(R1,R2,r):=⟨R.1,R.2.1,R.2.2,rfl⟩
 have hfr:(r.isSome==(r.getD 0 != 0))=true:=by
  cases r with
  | none=>rfl
  | some x=>
   have:=hid x rfl
   have e:(x != 0)=true:=by simp;omega
   show(true==(x != 0))=true
   rw[e]
   rfl
 have HR:=Lib.hid hR
 have HS1:=Lib.hid hs1
 obtain⟨rs,hrs⟩: ∃rs,r.isSome=rs:=⟨_,rfl⟩
 obtain⟨rg,hrg⟩: ∃rg,r.getD 0=rg:=⟨_,rfl⟩
 rw[hrs,hrg]at hfr
 have HD:=Lib.hid (show Sr cs R1 its' R2 rg from by rw[←hrg];exact hd)
 have HNP:=Lib.hid (show R1.now=T.now+1∧its <+: its'∧(Has its' l∨Has its (-l))from⟨hnow,hpre,hhas⟩)
 have HRS:=Lib.hid hrs
 have HRG:=Lib.hid hrg
 have HH:=Lib.hid h
 obtain⟨-,d1,-,-⟩:=h.cells
 obtain⟨z,hz⟩: ∃z,T.push.val l=z:=⟨_,rfl⟩
 have HZ:=Lib.hid hz
 clear hrs hrg h hs1 hid hz hR hd hnow hpre hhas hA
 go_enter Tryz.func13,Tryz.ntmps13
 go_wp2_with fail
 refine HPU.out.mono ?_
 rintro e w1 ⟨rfl,hn1⟩
 obtain⟨lab1,h1⟩:=HH.out.next hn1
 have H1:=Lib.hid h1
 obtain⟨-,d2,-,-⟩:=h1.cells
 have hva:=tr_value tb T.push l w1 h1.lw.sys.tr
 rw[HZ.out]at hva
 have HVA:=Lib.hid hva
 clear h1 hn1 hva HPU d1
 go_wp2_with fail
 refine HVA.out.mono ?_
 rintro e w2 ⟨rfl,hb2⟩
 have H2:=Lib.hid (H1.out.below hb2)
 obtain⟨-,d3,d4,-⟩:=H2.out.cells
 clear hb2 HVA H1 d2
 cases hzz:(z==0)with
 | true=>
  have hz0:T.push.val l=0:=by rw[HZ.out];simpa using hzz
  have herr:=free_err (T:=T.push) hv hl.1 hl.2 hz0 (r:=0) ⟨by omega,by omega⟩
  have has:=lw_assign H2.out.lw l 0 (by have:=HS1.out.few hv;omega)
  rw[herr]at has
  have hdd:decT T l=T.push.assigned l 0:=by unfold decT decA;rw[if_pos hz0]
  have HSD:=Lib.hid (HS1.out.snoc herr)
  have HDD:=Lib.hid hdd
  have HAS:=Lib.hid has
  clear has hdd herr hz0 d4
  go_wp2_with fail
  refine HAS.out.mono ?_
  rintro e w3 ⟨rfl,hn3⟩
  obtain⟨lab3,h3⟩:=H2.out.next hn3
  obtain⟨-,-,d5,-⟩:=h3.cells
  have hpr:=lw_prop h3.lw hL ⟨_,HSD.out⟩ (by rw[assigned_vars];show T.vars.length≤_;omega)
  rw[←HDD.out,HR.out]at hpr
  simp only at hpr
  rw[HRS.out,HRG.out]at hpr
  have HPR:=Lib.hid hpr
  have H3:=Lib.hid h3
  clear h3 hn3 hpr HAS d3
  go_wp2_with fail
  refine HPR.out.mono ?_
  rintro e w4 ⟨rfl,hn4⟩
  obtain⟨lab4,h4⟩:=H3.out.next hn4
  have H4:=Lib.hid h4
  clear h4 hn4 HPR H3 d5
  go_wp2_with fail
  go_ret2
  exact⟨lab4,R1,its',R2,rg,rfl,H4.out,HD.out,HNP.out⟩
 | false=>
  have hz0:T.push.val l≠0:=by rw[HZ.out];simpa using hzz
  have hdd:decT T l=T.push:=by unfold decT decA;rw[if_neg hz0]
  have hpr:=lw_prop H2.out.lw hL ⟨_,HS1.out⟩ (by show T.vars.length≤_;omega)
  rw[←hdd,HR.out]at hpr
  simp only at hpr
  rw[HRS.out,HRG.out]at hpr
  have HPR:=Lib.hid hpr
  clear hpr hdd hz0 d3
  go_wp2_with fail
  refine HPR.out.mono ?_
  rintro e w4 ⟨rfl,hn4⟩
  obtain⟨lab4,h4⟩:=H2.out.next hn4
  have H4:=Lib.hid h4
  clear h4 hn4 HPR d4
  go_wp2_with fail
  go_ret2
  exact⟨lab4,R1,its',R2,rg,rfl,H4.out,HD.out,HNP.out⟩
end
end Go.Proofs.YtoojmhjagipmdaaGreat
namespace Go.Proofs.YtoojmhjagipmdaaGreat
open Go.RowKit
def ActP.cells (a:ActP):List Value:= [.bool a.push,.int .i64 a.l,.int .i64 a.by_]
theorem actCells_at (l:List ActP) (i j:Nat) (x:ActP) (h:l[i]? =some x) (hj:j<3):(l.flatMap ActP.cells)[i*3+j]? =x.cells[j]? :=by
 induction l generalizing i with
 | nil=>simp at h
 | cons y l ih=>
  rw[List.flatMap_cons]
  cases i with
  | zero=>
   obtain rfl:y=x:=by simpa using h
   rw[Nat.zero_mul,Nat.zero_add,List.getElem?_append_left (by simpa [ActP.cells] using hj)]
  | succ i=>
   rw[List.getElem?_append_right (by simp[ActP.cells];omega)]
   have e:(i+1)*3+j-y.cells.length=i*3+j:=by simp[ActP.cells];omega
   rw[e]
   exact ih i (by simpa using h)
theorem acts_of_block {w:World} {g n c:Nat} {cs:Array Value} {t:TypeId} {l:List ActP} (h:w.heap[g]? =some (.cells cs t (0,0))) (hl:l.length=n) (ht:cs.toList.take (n*3)=l.flatMap ActP.cells):ActsIn w (.slice (some ⟨g,0,none⟩) n c) l:=by
 subst hl
 refine⟨_,c,rfl,fun i a hi=>⟨g,0,rfl,heap_lt h,?_⟩⟩
 have hlt:i<l.length:=(List.getElem?_eq_some_iff.1 hi).1
 have hc: ∀j,j<3→w.cell? ⟨g,i*3+j,none⟩=a.cells[j]? :=fun j hj=>by
  rw[mx_cell h,←actCells_at l i j a hi hj,←ht,List.getElem?_take_of_lt (by omega),Array.getElem?_toList]
 have h0:=hc 0 (by omega)
 have h1:=hc 1 (by omega)
 have h2:=hc 2 (by omega)
 exact⟨by rw[Nat.zero_add];exact h0,by rw[Nat.zero_add];exact h1,by rw[Nat.zero_add];exact h2⟩
theorem LrnAt.parts {n:Nat} {w:World} {v:Value} {r:Lrn} (h:LrnAt n w v r): ∃Ax cx Ay cy Az cz,v= .agg #[.slice Ax r.lits.length cx,.int .i64 r.back,.int .i64 r.levels,.slice Ay r.hints.length cy,.slice Az r.met.length cz]∧
  (∀w',Below w.heap.size w w'→IntsIn (fun g=>n≤g) w' (.slice Ax r.lits.length cx) r.lits)∧(∀w',Below w.heap.size w w'→IntsIn (fun g=>n≤g) w' (.slice Ay r.hints.length cy) r.hints)∧(∀w',Below w.heap.size w w'→IntsIn (fun g=>n≤g) w' (.slice Az r.met.length cz) r.met):=by
 obtain⟨x,y,z,rfl,hx,hy,hz⟩:=h
 obtain⟨Ax,cx,rfl,_⟩:=mx_slice hx
 obtain⟨Ay,cy,rfl,_⟩:=mx_slice hy
 obtain⟨Az,cz,rfl,_⟩:=mx_slice hz
 exact⟨Ax,cx,Ay,cy,Az,cz,rfl,fun w' hb=>((IntsIn.of_own hx).below hb).mono (fun g hg=>hg.1),fun w' hb=>((IntsIn.of_own hy).below hb).mono (fun g hg=>hg.1),fun w' hb=>((IntsIn.of_own hz).below hb).mono (fun g hg=>hg.1)⟩
theorem eqi_lit {O:Nat→Prop} (W:World) (u:Value) (xs ys:List Int) (h: ∀w',Below W.heap.size W w'→IntsIn O w' u xs) (hs:xs.length≤1000):
  Calls Tryz.prog 46 #[u,.slice (some ⟨W.heap.size,0,none⟩) ys.length ys.length] (W.alloc (.cells (ys.map (Value.int .i64)).toArray 3)) fun e w'=>e= .returned (.bool (xs==ys))∧Below W.heap.size W w':=by
 have hb:=mx_al W (.cells (ys.map (Value.int .i64)).toArray 3)
 refine(eq_i u _ xs ys _ (h _ hb) (mx_ints W ys _) (by omega)).mono ?_
 rintro e w' ⟨rfl,n,rfl⟩
 exact⟨rfl,hb.trans ((mx_drewN _ n).mono hb.size)⟩
end Go.Proofs.YtoojmhjagipmdaaGreat
