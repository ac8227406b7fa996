/- lratext.Write at proofs that are right; Text (package emit). Plain: a text, parted; a decimal numeral is read back. Plain: what a line of a proof is parted into. Literals: Var, Neg. IndexFunc, ContainsFunc at literals, with any function that tells a property. -/
import Derived.Test.YteigjcichmpejaaDoorV109
import Derived.Test.YteigjcichmpejaaDoorV100
import Derived.Lib.Split
import Derived.Lib.SplitLaws
import Derived.Lib.CountLaws
import Derived.Lib.IndexBytes
import Derived.Lib.Atoi
import Derived.Lib.ItoaNum
import Derived.Test.YteigjcichmpejaaDoorV102
namespace Go.Proofs.YteigjcichmpejaaDoor
open Go.RowKit
def proofT (l:List EStep):List UInt8:=l.flatMap fun s=>stepT s++ [10]
theorem proofT_take (l:List EStep) (k:Nat) (s:EStep) (h:l[k]? =some s):proofT (l.take (k+1))=proofT (l.take k)++(stepT s++ [10]):=by
 rw[proofT,proofT,List.take_add_one,h,List.flatMap_append]
 simp
theorem proofT_le (l:List EStep) (k:Nat):(proofT (l.take k)).length≤(proofT l).length:=by
 have:proofT l=proofT (l.take k)++proofT (l.drop k):=by
  rw[proofT,proofT,proofT,←List.flatMap_append,List.take_append_drop]
 rw[this,List.length_append]
 omega
set_option maxRecDepth 100000 in
set_option maxHeartbeats 2000000 in
theorem write_ok {O:Nat→Prop} (v:Value) (l:List EStep) (ms:List MStep) (w:World) (h:StepsAt O w v l ms) (hp:ProofOk l) (ht:TabW w) (hlen:(proofT l).length≤16777216):
  Calls Tryd.prog 28 #[v] w fun e w'=>e= .returned (.tuple #[.string ⟨(proofT l).toArray⟩,.int .i64 (-1),.int .i64 0])∧Below w.heap.size w w':=by
 have hms:ms.length=l.length:=by rw[←h.steps,List.length_map]
 have hml:ms.length≤262144:=by have:=hp.len;omega
 have HC:=Lib.hid (check_ok v l ms w h hp)
 obtain⟨As,cs,rfl,hcs⟩:=own_slice h.row
 have H:=Lib.hid h
 have HP:=Lib.hid hp
 have HM:=Lib.hid hms
 have HT:=Lib.hid ht
 clear h hp hms ht
 go_enter Tryd.func28,Tryd.ntmps28
 go_wp2_with fail
 refine HC.out.mono ?_
 rintro e w1 ⟨rfl,hb1⟩
 have hz1:=hb1.size
 have HB1:=Lib.hid hb1
 clear hb1
 go_wp2_with fail
 obtain⟨wb,hwb⟩: ∃wb,w1.alloc (.cells #[.pointer none,.slice none 0 0] 85)=wb:=⟨_,rfl⟩
 have hB:Below w1.heap.size w1 wb:=by rw[←hwb];exact(Below.refl _ _).alloc (Nat.le_refl _) _
 have hS:wb.heap.size=w1.heap.size+1:=by rw[←hwb];simp
 have hI:IsB w1.heap.size w1.heap.size [] wb:=by rw[←hwb];exact IsB.new _ _ (Nat.le_refl _)
 rw[hwb]
 have HWB:=Lib.hid (HB1.out.trans (hB.mono hz1))
 have HWS:=Lib.hid hS
 have HI:=Lib.hid hI
 clear hwb hB hS hI
 go_loopw [21] (fun i wr=> ∃k:Nat,k≤ms.length∧i= .int .i64 k∧Hid (IsB w1.heap.size w1.heap.size (proofT (l.take k)) wr)∧Hid (Below w1.heap.size wb wr)) (fun i _=>ms.length-(intOf i).toNat)
 case atStart=>exact⟨0,Nat.zero_le _,rfl,HI,Lib.hid (Below.refl _ _)⟩
 case round=>
  obtain⟨k,hk,rfl,HIB,HBr⟩:=hrel
  have hzr:=HBr.out.size
  have hzb:=HWS.out
  have hbW:Below w.heap.size w wr:=HWB.out.trans (HBr.out.mono hz1)
  by_cases hlt:k<ms.length
  ·obtain⟨m,g,hm,hl,hat,⟨c,hv⟩,hg,c0,c1,c2,c3⟩:=step_cells H.out hlt
   simp only[Value.slice.injEq]at hv
   obtain⟨rfl,_,rfl⟩:=hv
   have d0:wr.cell? ⟨g,k*4,none⟩=some (.bool m.s.del):=(hbW.cell (p:=⟨g,k*4,none⟩) hg).trans c0
   have d1:wr.cell? ⟨g,k*4+1,none⟩=some (.int .i64 m.s.id):=(hbW.cell (p:=⟨g,k*4+1,none⟩) hg).trans c1
   have d2:wr.cell? ⟨g,k*4+2,none⟩=some m.lv:=(hbW.cell (p:=⟨g,k*4+2,none⟩) hg).trans c2
   have d3:wr.cell? ⟨g,k*4+3,none⟩=some m.hv:=(hbW.cell (p:=⟨g,k*4+3,none⟩) hg).trans c3
   have hso:=HP.out.each _ (List.mem_of_getElem? hl)
   obtain⟨A1,k1,hlv,_⟩:=own_slice hat.lits
   obtain⟨A2,k2,hhv,_⟩:=own_slice hat.hints
   rw[hlv]at d2
   rw[hhv]at d3
   have hIL: ∀w',Below w.heap.size w w'→IntsIn (fun _=>True) w' (.slice A1 m.s.lits.length k1) m.s.lits:=fun w' hb=>by rw[←hlv];exact((IntsIn.of_own hat.lits).below hb).mono (fun _ _=>trivial)
   have hIH: ∀w',Below w.heap.size w w'→IntsIn (fun _=>True) w' (.slice A2 m.s.hints.length k2) m.s.hints:=fun w' hb=>by rw[←hhv];exact((IntsIn.of_own hat.hints).below hb).mono (fun _ _=>trivial)
   have hpt:=proofT_take l k m.s hl
   have hple:(proofT (l.take (k+1))).length≤16777216:=Nat.le_trans (proofT_le _ _) hlen
   have hpl2:(proofT (l.take k)).length+((stepT m.s).length+1)≤16777216:=by
    rw[hpt]at hple
    simpa [List.length_append,Nat.add_assoc] using hple
   have hsl:(stepT m.s).length≤16777216:=by omega
   have HIL:=Lib.hid hIL
   have HIH:=Lib.hid hIH
   have HSO:=Lib.hid hso
   have HPT:=Lib.hid hpt
   have HPL:=Lib.hid hpl2
   have hpd:decide ((16777216:Int)<(((proofT (l.take (k+1))).length:Nat):Int))=false:=by simp;omega
   have hpd2:decide (16777216<(proofT (l.take (k+1))).length)=false:=by simp;omega
   have HBW:=Lib.hid hbW
   clear c0 c1 c2 c3 hat hso hl hlv hhv hIL hIH hpt hple hpl2 hm hbW
   go_wp2_with fail
   obtain⟨wa,hwa⟩: ∃wa,wr.alloc (.cells #[.bool m.s.del,.int .i64 m.s.id,.slice A1 m.s.lits.length k1,.slice A2 m.s.hints.length k2] 49)=wa:=⟨_,rfl⟩
   have hwb2:Below wr.heap.size wr wa:=by rw[←hwa];exact(Below.refl _ _).alloc (Nat.le_refl _) _
   rw[hwa]
   have hwB:Below w.heap.size w wa:=HBW.out.trans (hwb2.mono HBW.out.size)
   have hza:=hwb2.size
   have HWA:=Lib.hid hwb2
   have HWB2:=Lib.hid hwB
   clear hwa hwb2 hwB d0 d1 d2 d3
   refine(line_any m.s _ _ _ HSO.out.ln (HIL.out _ HWB2.out) (HIH.out _ HWB2.out) (HT.out.below HWB2.out HT.out.lt)).mono ?_
   rintro e w2 ⟨rfl,hb2⟩
   have hz2:=hb2.size
   have hi2:IsB w1.heap.size w1.heap.size (proofT (l.take k)) w2:=HIB.out.kept (HWA.out.trans (hb2.mono hza))
   have HI2:=Lib.hid hi2
   have HB2:=Lib.hid hb2
   clear hi2 hb2
   go_wp2_with fail
   refine(bw_write _ _ _ _ _ HI2.out (by rw[ba_size _ [10]];have:=HPL.out;simp only[List.length_cons,List.length_nil];omega) (by omega)).mono ?_
   rintro e w3 ⟨rfl,hi3,hb3⟩
   have hz3:=hb3.size
   have hi3':IsB w1.heap.size w1.heap.size (proofT (l.take (k+1))) w3:=by rw[HPT.out];simpa using hi3
   have HI3:=Lib.hid hi3'
   have HB3:=Lib.hid hb3
   clear hi3 hb3 hi3'
   go_wp2_with fail
   refine(bw_len _ _ _ _ HI3.out).mono ?_
   rintro e w4 ⟨rfl,rfl⟩
   go_wp2_with fail
   go_roundw
   case rel=>
    exact⟨k+1,by omega,by go_num,HI3,Lib.hid (HBr.out.trans (((HWA.out.mono (by omega)).trans (HB2.out.mono (by omega))).trans HB3.out))⟩
   case measure=>simp[intOf];omega
  ·obtain rfl:k=ms.length:=by omega
   have HI1:=HIB
   rw[HM.out,List.take_length]at HI1
   go_wp2_with fail
   refine(bw_string _ _ _ _ HI1.out (by omega)).mono ?_
   rintro e wg ⟨rfl,hbg⟩
   have HBG:=Lib.hid hbg
   have HBW:=Lib.hid hbW
   clear hbg hbW
   go_wp2_with fail
   go_ret3
   exact⟨rfl,HBW.out.trans (HBG.out.mono (by omega))⟩
theorem log_text {O:Nat→Prop} (b:Nat) (L:ELog) (w:World) (h:LogAt O w b L) (hp:ProofOk L.steps) (ht:TabW w) (hlen:(proofT L.steps).length≤16777216):
  Calls Tryd.prog 13 #[.pointer (some ⟨b,0,none⟩)] w fun e w'=>e= .returned (.tuple #[.string ⟨(proofT L.steps).toArray⟩,.int .i64 0])∧Below w.heap.size w w':=by
 obtain⟨mb,sv,ms,h⟩:=h
 obtain⟨c0,c1,c2,c3,c4⟩:=h.cells
 have HW:=Lib.hid (write_ok sv L.steps ms w ⟨h.row,h.steps,h.each⟩ hp ht hlen)
 obtain⟨As,cs,rfl,hcs⟩:=own_slice h.row
 clear h c0 c1 c2 c4 hp ht hlen
 go_enter Tryd.func13,Tryd.ntmps13
 go_wp2_with fail
 refine HW.out.mono ?_
 rintro e w1 ⟨rfl,hb1⟩
 have HB:=Lib.hid hb1
 clear hb1
 go_wp2_with fail
 go_ret2
 exact⟨rfl,HB.out⟩
end Go.Proofs.YteigjcichmpejaaDoor
namespace Go.Proofs.YteigjcichmpejaaDoor
open Go.RowKit
def spl (c:UInt8):List UInt8→List (List UInt8)
 | []=> [[]]
 | b::r=>if b=c then []::spl c r else match spl c r with
  | []=> [[b]]
  | x::t=>(b::x)::t
theorem spl_none {c:UInt8}: ∀{s:List UInt8},c∉s→spl c s= [s]
 | [],_=>rfl
 | b::r,h=>by
  rw[List.mem_cons,not_or]at h
  rw[spl,if_neg (fun e=>h.1 e.symm),spl_none h.2]
theorem spl_app {c:UInt8}: ∀{x:List UInt8} (r:List UInt8),c∉x→spl c (x++c::r)=x::spl c r
 | [],r,_=>by rw[List.nil_append,spl,if_pos rfl]
 | b::x,r,h=>by
  rw[List.mem_cons,not_or]at h
  rw[List.cons_append,spl,if_neg (fun e=>h.1 e.symm),spl_app r h.2]
theorem first_occ {c:UInt8}: ∀{s:List UInt8},c∈s→∃x r,s=x++c::r∧c∉x
 | [],h=>by cases h
 | b::s,h=>by
  by_cases e:b=c
  ·exact⟨[],s,by rw[e];rfl,fun h=>by cases h⟩
  ·obtain⟨x,r,h1,h2⟩:=first_occ ((List.mem_cons.1 h).resolve_left fun e2=>e e2.symm)
   exact⟨b::x,r,by rw[h1];rfl,fun h=>(List.mem_cons.1 h).elim (fun e2=>e e2.symm) h2⟩
theorem indexByte_at {c:UInt8}: ∀{x:List UInt8} (r:List UInt8),c∉x→Lib.indexByte (x++c::r) c=x.length
 | [],r,_=>by rw[List.nil_append,Lib.indexByte,if_pos (by simp)];rfl
 | b::x,r,h=>by
  rw[List.mem_cons,not_or]at h
  have ih:=indexByte_at r h.2
  rw[List.cons_append,Lib.indexByte,if_neg (by simpa using fun e=>h.1 (Eq.symm e)),ih,if_neg (by simp),List.length_cons]
  rfl
theorem splitK_spl {c:UInt8}: ∀(k:Nat) (s:List UInt8),s.count c=k→Lib.splitK [c] 0 k s=spl c s:=by
 intro k
 induction k with
 | zero=>
  intro s h
  rw[spl_none (List.count_eq_zero.1 h)]
  rfl
 | succ k ih=>
  intro s h
  obtain⟨x,r,rfl,hx⟩:=first_occ (List.count_pos_iff.1 (by rw[h];exact Nat.succ_pos _))
  have h1:Lib.index (x++c::r) [c]=x.length:=by rw[Lib.index_one,indexByte_at r hx]
  rw[Lib.splitK,h1,if_neg (by simp),spl_app r hx]
  have h2:r.count c=k:=by
   rw[List.count_append,List.count_cons_self,List.count_eq_zero.2 hx]at h
   omega
  have e1:((x.length:Nat):Int).toNat=x.length:=Int.toNat_natCast _
  rw[e1,Nat.add_zero,List.take_left,List.length_singleton,show(x++c::r).drop (x.length+1)=r from by
   rw[←List.drop_drop,List.drop_left]
   rfl,ih r h2]
theorem split_spl (c:UInt8) (s:List UInt8):Lib.split s [c]=spl c s:=by
 unfold Lib.split
 rw[Lib.count_one]
 exact splitK_spl _ s rfl
def isDig (b:UInt8):Prop:=48≤b.toNat∧b.toNat≤57
theorem dec_dig: ∀(u:Nat),∀b∈Lib.decDigits u,isDig b:=by
 intro u
 induction u using Nat.strongRecOn with
 | ind u ih=>
  intro b hb
  have key: ∀d,d<10→isDig (UInt8.ofNat (48+d)):=fun d hd=>by
   unfold isDig
   rw[UInt8.toNat_ofNat',Nat.mod_eq_of_lt (by omega)]
   omega
  by_cases h:u<10
  ·rw[Lib.decDigits,dif_pos h,List.mem_singleton]at hb
   rw[hb]
   exact key u h
  ·rw[Lib.decDigits,dif_neg h,List.mem_append,List.mem_singleton]at hb
   rcases hb with hb|hb
   ·exact ih _ (by omega) b hb
   ·rw[hb]
    exact key _ (by omega)
theorem dec_ne (u:Nat):Lib.decDigits u≠ []:=by
 by_cases h:u<10
 ·rw[Lib.decDigits,dif_pos h];exact fun e=>by cases e
 ·rw[Lib.decDigits,dif_neg h];exact fun e=>by simp at e
theorem decFrom_app: ∀(l:List UInt8) (acc n:Nat) (b:UInt8) (d:Nat),Lib.decFrom acc l=some n→Lib.digitVal b=some d→Lib.decFrom acc (l++ [b])=some (n*10+d)
 | [],acc,n,b,d,h,hb=>by
  obtain rfl:=Option.some.inj h
  rw[List.nil_append,Lib.decFrom,hb]
  rfl
 | a::l,acc,n,b,d,h,hb=>by
  rw[Lib.decFrom]at h
  rw[List.cons_append,Lib.decFrom]
  cases ha:Lib.digitVal a with
  | none=>rw[ha]at h;cases h
  | some v=>
   rw[ha]at h
   exact decFrom_app l _ n b d h hb
theorem dig_val {d:Nat} (h:d<10):Lib.digitVal (UInt8.ofNat (48+d))=some d:=by
 unfold Lib.digitVal
 rw[UInt8.toNat_ofNat',Nat.mod_eq_of_lt (by omega),if_pos (by omega)]
 congr 1
 omega
theorem dec_back: ∀(u:Nat),Lib.decFrom 0 (Lib.decDigits u)=some u:=by
 intro u
 induction u using Nat.strongRecOn with
 | ind u ih=>
  by_cases h:u<10
  ·rw[Lib.decDigits,dif_pos h]
   have:=decFrom_app [] 0 0 _ _ rfl (dig_val h)
   rw[List.nil_append]at this
   rw[this]
   congr 1
   omega
  ·rw[Lib.decDigits,dif_neg h,decFrom_app _ 0 _ _ _ (ih _ (by omega)) (dig_val (by omega))]
   congr 1
   omega
theorem atoi_itoa (n:Int):Lib.atoi (Lib.itoa n)=some n:=by
 unfold Lib.itoa
 split
 ·rename_i h
  rw[Lib.atoi,if_pos (by decide)]
  unfold Lib.decNat
  rw[if_neg (by rw[List.isEmpty_iff];exact dec_ne _),dec_back]
  simp only[Option.map_some]
  congr 1
  omega
 ·rename_i h
  obtain⟨b,r,hb⟩: ∃b r,Lib.decDigits n.toNat=b::r:=by
   cases hd:Lib.decDigits n.toNat with
   | nil=>exact absurd hd (dec_ne _)
   | cons b r=>exact⟨b,r,rfl⟩
  have hd:isDig b:=dec_dig n.toNat b (by rw[hb];exact List.mem_cons_self)
  have n1: ¬(b==45)=true:=fun e=>by have:=beq_iff_eq.1 e;subst this;exact absurd hd.1 (by decide)
  have n2: ¬(b==43)=true:=fun e=>by have:=beq_iff_eq.1 e;subst this;exact absurd hd.1 (by decide)
  rw[hb,Lib.atoi,if_neg n1,if_neg n2]
  unfold Lib.decNat
  rw[if_neg (by simp),←hb,dec_back]
  simp only[Option.map_some]
  congr 1
  omega
theorem itoa_not (n:Int) {c:UInt8} (hc:c.toNat<45):c∉Lib.itoa n:=by
 intro h
 have key: ∀u,c∉Lib.decDigits u:=fun u hu=>by
  have:=(dec_dig u c hu).1
  omega
 unfold Lib.itoa at h
 split at h
 ·rcases List.mem_cons.1 h with e|h
  ·subst e
   exact absurd hc (by decide)
  ·exact key _ h
 ·exact key _ h
end Go.Proofs.YteigjcichmpejaaDoor
namespace Go.Proofs.YteigjcichmpejaaDoor
open Go.RowKit
theorem spl_nums: ∀(l:List Int) (x:List UInt8),(32:UInt8)∉x→spl 32 (x++numsT l)=x::l.map Lib.itoa
 | [],x,hx=>by
  rw[show numsT []= []from rfl,List.append_nil,spl_none hx]
  rfl
 | n::l,x,hx=>by
  rw[show numsT (n::l)=32::(Lib.itoa n++numsT l)from by simp[numsT,numT],spl_app _ hx,spl_nums l _ (itoa_not n (by decide))]
  rfl
theorem numsT_app (a b:List Int):numsT (a++b)=numsT a++numsT b:=by unfold numsT;rw[List.flatMap_append]
theorem numsT_one (n:Int):numsT [n]=numT n:=by simp[numsT]
theorem spl_step (s:EStep):spl 32 (stepT s)=Lib.itoa s.id::((if s.del then [[100]]else(s.lits++ [0]).map Lib.itoa)++(s.hints++ [0]).map Lib.itoa):=by
 unfold stepT
 cases hd:s.del with
 | true=>
  rw[if_pos rfl,if_pos rfl,List.append_assoc,List.append_assoc,←numsT_one,←numsT_app]
  show spl 32 (Lib.itoa s.id++32::([100]++numsT (s.hints++ [0])))=_
  rw[spl_app _ (itoa_not _ (by decide)),spl_nums _ _ (by decide)]
  rfl
 | false=>
  rw[if_neg (by decide),if_neg (by decide),←numsT_one,←numsT_app,List.append_assoc,List.append_assoc,←numsT_app,←numsT_app,spl_nums _ _ (itoa_not _ (by decide)),←List.map_append]
theorem stepT_no {c:UInt8} (hc:c.toNat<32) (s:EStep):c∉stepT s:=by
 have hn: ∀n,c∉numT n:=fun n h=>by
  rcases List.mem_cons.1 h with e|h
  ·subst e
   exact absurd hc (by decide)
  ·exact itoa_not n (by omega) h
 have hl: ∀l,c∉numsT l:=fun l h=>by
  obtain⟨n,_,h⟩:=List.mem_flatMap.1 h
  exact hn n h
 unfold stepT
 rw[List.mem_append,List.mem_append,List.mem_append,not_or,not_or,not_or]
 refine⟨⟨⟨itoa_not _ (by omega),?_⟩,hl _⟩,hn _⟩
 split
 ·intro h
  simp only[List.mem_cons,List.not_mem_nil,or_false]at h
  rcases h with e|e
  ·subst e
   exact absurd hc (by decide)
  ·subst e
   exact absurd hc (by decide)
 ·rw[List.mem_append,not_or]
  exact⟨hl _,hn _⟩
theorem spl_proof: ∀l:List EStep,spl 10 (proofT l)=l.map stepT++ [[]]
 | []=>rfl
 | s::l=>by
  rw[show proofT (s::l)=stepT s++10::proofT l from by simp[proofT],spl_app _ (stepT_no (by decide) s),spl_proof l]
  rfl
end Go.Proofs.YteigjcichmpejaaDoor
namespace Go.Proofs.YteigjcichmpejaaDoor
open Go.RowKit
def litV (l:Int):Nat:=if litB l=true then l.natAbs else 0
def litN (l:Int):Int:=if litB l=true then -l else 0
end Go.Proofs.YteigjcichmpejaaDoor
namespace Go.Proofs.YteigjcichmpejaaDoor
open Go.RowKit
def FstI {α:Type} (xs:List α) (P:α→Bool) (i:Int):Prop:=(i= -1∧∀x∈xs,P x=false)∨∃k:Nat,i=k∧k<xs.length∧(∀j x,j<k→xs[j]? =some x→P x=false)∧∃x,xs[k]? =some x∧P x=true
theorem FstI.any {α:Type} {xs:List α} {P:α→Bool} {i:Int} (h:FstI xs P i):decide (0≤i)=xs.any P:=by
 rcases h with⟨rfl,h⟩|⟨k,rfl,_,_,x,hx,hp⟩
 ·have:xs.any P=false:=List.any_eq_false.2 (fun x hx=>by rw[h x hx];decide)
  rw[this]
  rfl
 ·have:xs.any P=true:=List.any_eq_true.2 ⟨x,List.mem_of_getElem? hx,hp⟩
  rw[this]
  exact decide_eq_true (by omega)
theorem FstI.step {α:Type} {xs:List α} {P:α→Bool} {k:Nat} {x:α} (h: ∀j x,j<k→xs[j]? =some x→P x=false) (hk:xs[k]? =some x) (hx:P x=false): ∀j x,j<k+1→xs[j]? =some x→P x=false:=fun j y hj hy=>by
 rcases Nat.lt_or_ge j k with hl|hl
 ·exact h j y hl hy
 ·obtain rfl:j=k:=by omega
  rw[hk]at hy
  obtain rfl:=Option.some.inj hy
  exact hx
theorem FstI.none {α:Type} {xs:List α} {P:α→Bool} (h: ∀j x,j<xs.length→xs[j]? =some x→P x=false):FstI xs P (-1):=.inl ⟨rfl,fun x hx=>by
 obtain⟨j,hj⟩:=List.getElem?_of_mem hx
 exact h j x (List.getElem?_eq_some_iff.1 hj).1 hj⟩
def TellsI (w:World) (F:Nat) (v:Value) (xs:List Int) (P:Int→Bool):Prop:= ∀W,Below w.heap.size w W→∀x∈xs,Calls Tryd.prog F #[.int .i64 x,v] W fun e w'=>e= .returned (.bool (P x))∧Below W.heap.size W w'
end Go.Proofs.YteigjcichmpejaaDoor
