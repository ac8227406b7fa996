/- package rup: look. Made (package salvorlaw08): a clause of small numbers. -/
import Derived.Test.YtkfgplfllddhnaaGreatDoorV705
import Derived.Test.YtkfgplfllddhnaaGreatDoorV700
import Derived.Test.YtkfgplfllddhnaaGreatDoorV702
import Derived.Test.YtkfgplfllddhnaaGreatDoorV703
namespace Go.Proofs.YtkfgplfllddhnaaGreatDoor
open Go.RowKit Go.Maps Go.Shelf
def ofF (f:Int→Int) (l:Int):Int:=if litG l=true then-f (litV l:Nat)else f (litV l:Nat)
def putF (f:Int→Int) (l:Int):Int→Int:=fun z=>if z=((litV l:Nat):Int)then(if litG l=true then -1 else 1)else f z
def okF (f:Int→Int):Prop:= ∀z,-1≤f z∧f z≤1
theorem okF_put {f:Int→Int} (h:okF f) (l:Int):okF (putF f l):=by
 intro z
 unfold putF
 split
 ·split <;> omega
 ·exact h z
theorem wf_var (l:Int):(Lit.int .i64 ((litV l:Nat):Int)).wf=true:=by
 have h:litV l≤1048576:=by
  unfold litV
  split
  ·rename_i h
   have:=(litB_iff l).1 h
   omega
  ·omega
 exact wf64 (by omega) (by omega)
theorem rup_of (b n:Nat) (f:Int→Int) (l:Int) (w:World) (h:MapAt w b n f) (hf:okF f):
  Calls Tryz.prog 90 #[.map (some b),.int .i64 l] w fun e w'=>e= .returned (.int .i64 (ofF f l))∧w=w':=by
 have hl:=h.lookV (wf_var l)
 have HV:=Lib.hid (lit_var l w)
 have HG:=lit_negated l w
 have hx:=hf (litV l:Nat)
 unfold ofF
 obtain⟨v,hv⟩: ∃v:Int,((litV l:Nat):Int)=v:=⟨_,rfl⟩
 rw[hv]at HV hl hx⊢
 obtain⟨y,hy⟩: ∃y:Int,f v=y:=⟨_,rfl⟩
 rw[hy]at hl hx⊢
 have hw:IntKind.i64.wrap (-y)= -y:=IntWalk.i64_in _ (by omega)
 clear h hf hv hy
 cases hg:litG l with
 | false=>
  rw[hg]at HG
  rw[if_neg (by decide)]
  have HG:=Lib.hid HG
  clear hg
  go_enter Tryz.func90,Tryz.ntmps90
  go_wp2_with fail
  refine HV.out.mono ?_
  rintro e w' ⟨rfl,rfl⟩
  go_wp2_with fail
  refine HG.out.mono ?_
  rintro e w' ⟨rfl,rfl⟩
  go_wp2_with fail
  go_ret
  exact⟨rfl,rfl⟩
 | true=>
  rw[hg]at HG
  rw[if_pos rfl]
  have HG:=Lib.hid HG
  clear hg
  go_enter Tryz.func90,Tryz.ntmps90
  go_wp2_with fail
  refine HV.out.mono ?_
  rintro e w' ⟨rfl,rfl⟩
  go_wp2_with fail
  refine HG.out.mono ?_
  rintro e w' ⟨rfl,rfl⟩
  go_wp2_with fail
  go_ret
  exact⟨rfl,rfl⟩
theorem rup_put (b n:Nat) (f:Int→Int) (l:Int) (w:World) (h:MapAt w b n f) (hn:n≤1000000000000):
  Calls Tryz.prog 91 #[.map (some b),.int .i64 l] w fun e w'=>e= .returned (.tuple #[])∧(∃n',n'≤n+2∧MapAt w' b n' (putF f l))∧Kept (fun g=>g=b) w w':=by
 have HV:=Lib.hid (fun W=>lit_var l W)
 have HG:=fun W=>lit_negated l W
 have HW:=Lib.hid (wf_var l)
 have HM:=Lib.hid h
 unfold putF
 obtain⟨v,hv⟩: ∃v:Int,((litV l:Nat):Int)=v:=⟨_,rfl⟩
 rw[hv]at HV HW⊢
 clear h hv
 cases hg:litG l with
 | false=>
  rw[hg]at HG
  simp only[Bool.false_eq_true,if_false]
  have HG:=Lib.hid HG
  clear hg
  go_enter Tryz.func91,Tryz.ntmps91
  go_wp2_with fail
  refine(HV.out _).mono ?_
  rintro e w' ⟨rfl,rfl⟩
  go_wp2_with (at_mapUpdate;refine wpList_putV HM.out rfl _ _ _ rfl rfl (by unfold maxLen;omega) v 1 rfl rfl HW.out rfl ?_;intro w1 hm hg)
  have HM1:=Lib.hid hm
  have HK1:=Lib.hid (Kept.grown hg)
  clear hm hg
  go_wp2_with fail
  refine(HG.out _).mono ?_
  rintro e w' ⟨rfl,rfl⟩
  go_wp2_with fail
  go_end0
  exact⟨rfl,⟨n+1,by omega,HM1.out⟩,HK1.out.mono (fun g _ h=>by cases h;rfl)⟩
 | true=>
  rw[hg]at HG
  simp only[if_true]
  have HG:=Lib.hid HG
  clear hg
  go_enter Tryz.func91,Tryz.ntmps91
  go_wp2_with fail
  refine(HV.out _).mono ?_
  rintro e w' ⟨rfl,rfl⟩
  go_wp2_with (at_mapUpdate;refine wpList_putV HM.out rfl _ _ _ rfl rfl (by unfold maxLen;omega) v 1 rfl rfl HW.out rfl ?_;intro w1 hm hg)
  have HM1:=Lib.hid hm
  have HK1:=Lib.hid (Kept.grown hg)
  clear hm hg
  go_wp2_with fail
  refine(HG.out _).mono ?_
  rintro e w' ⟨rfl,rfl⟩
  go_wp2_with fail
  refine(HV.out _).mono ?_
  rintro e w' ⟨rfl,rfl⟩
  go_wp2_with (at_mapUpdate;refine wpList_putV HM1.out rfl _ _ _ rfl rfl (by unfold maxLen;omega) v (-1) rfl rfl HW.out rfl ?_;intro w2 hm hg)
  have HM2:=Lib.hid hm
  have HK2:=Lib.hid (Kept.grown hg)
  clear hm hg
  go_wp2_with fail
  go_end0
  refine⟨rfl,⟨n+1+1,Nat.le_refl _,?_⟩,(HK1.out.mono (O':=fun g=>g=b) (fun g _ h=>by cases h;rfl)).trans HK2.out (fun i _ h=>by cases h;rfl)⟩
  have h2:=HM2.out
  have e:(fun z=>if z=v then(-1:Int)else if z=v then 1 else f z)=(fun z=>if z=v then -1 else f z):=by
   funext z
   by_cases hz:z=v
   ·rw[if_pos hz,if_pos hz]
   ·rw[if_neg hz,if_neg hz,if_neg hz]
  rwa [e]at h2
def lukGo (f:Int→Int) (k:Nat) (u:Int):List Int→Nat×Int
 | []=>(k,if k=3 then u else 0)
 | l::r=>if 0<ofF f l then(1,0)else if ofF f l<0∨l=u then lukGo f k u r else if u=0 then lukGo f 3 l r else lukGo f 4 u r
def lookF (f:Int→Int) (c:List Int):Nat×Int:=lukGo f 2 0 c
def asgGo (f:Int→Int):List Int→Option (Int→Int)
 | []=>some f
 | x::r=>if litB x=true∧0≤ofF f x then asgGo (putF f x) r else none
def asgF (xs:List Int):Option (Int→Int):=asgGo (fun _=>0) xs
def AsgOut (w w':World) (m:Nat) (e:Ending):Option (Int→Int)→Prop
 | some f=> ∃b n,e= .returned (.tuple #[.map (some b),.bool true])∧w.heap.size≤b∧n≤2*m∧MapAt w' b n f∧okF f
 | none=>e= .returned (.tuple #[.map none,.bool false])
set_option maxRecDepth 100000 in
set_option maxHeartbeats 2000000 in
theorem rup_assigned {O:Nat→Prop} (u:Value) (xs:List Int) (w:World) (hu:IntsIn O w u xs) (hlen:xs.length≤100000000000):
  Calls Tryz.prog 62 #[u] w fun e w'=>AsgOut w w' xs.length e (asgF xs)∧Below w.heap.size w w':=by
 have hmm:=@run_makeMap Tryz.prog
 obtain⟨W0,hW0⟩: ∃x,w.alloc (.map #[] 0)=x:=⟨_,rfl⟩
 have hb0:Below w.heap.size w W0:=by rw[←hW0];exact mx_al _ _
 have hm0:MapAt W0 w.heap.size 0 (fun _=>0):=by rw[←hW0];exact MapAt.made w
 have HU:=Lib.hid hu.lt
 obtain⟨A,c,rfl,hc,_,_⟩:=hu
 have HW0:=Lib.hid hW0
 have HB0:=Lib.hid hb0
 have HM0:=Lib.hid hm0
 obtain⟨res,hres⟩: ∃r,asgF xs=r:=⟨_,rfl⟩
 have HRS:=Lib.hid hres
 rw[hres]
 clear hW0 hb0 hm0 hres
 go_enter Tryz.func62,Tryz.ntmps62
 go_wp2_with fail
 rw[HW0.out]
 go_loopw [10] (fun i wr=> ∃(k n:Nat) (f:Int→Int),k≤xs.length∧i= .int .i64 k∧n≤2*k∧Hid (asgGo f (xs.drop k)=res)∧Hid (okF f)∧Hid (MapAt wr w.heap.size n f)∧Hid (Below w.heap.size w wr)) (fun i _=>xs.length-(intOf i).toNat)
 case atStart=>exact⟨0,0,_,Nat.zero_le _,rfl,Nat.le_refl _,HRS,Lib.hid (fun z=>by simp),HM0,HB0⟩
 case round=>
  obtain⟨k,n,f,hk,rfl,hn,HG,HF,HM,HB⟩:=hrel
  by_cases hlt:k<xs.length
  ·obtain⟨x,hxk⟩:=getElem_of hlt
   obtain⟨A',c',hAc,_,_,hxs⟩:=HU.out
   simp only[Value.slice.injEq,true_and]at hAc
   obtain⟨rfl,rfl⟩:=hAc
   obtain⟨g,o,rfl,hg,_,d0⟩:=hxs k x hxk
   have d1:wr.cell? ⟨g,o+k,none⟩=some (.int .i64 x):=(HB.out.cell (p:=⟨g,o+k,none⟩) hg).trans d0
   have hdk:xs.drop k=x::xs.drop (k+1):=by
    rw[List.drop_eq_getElem_cons hlt]
    rw[List.getElem?_eq_getElem hlt]at hxk
    rw[Option.some.inj hxk]
   have hgo:=HG.out
   rw[hdk]at hgo
   simp only[asgGo]at hgo
   have HR:=right_lit x wr
   have HOF:=rup_of w.heap.size n f x wr HM.out HF.out
   have HPT:=Lib.hid (rup_put w.heap.size n f x wr HM.out (by omega))
   cases hb:litB x with
   | false=>
    rw[hb]at HR hgo
    rw[if_neg (by simp)]at hgo
    have HN:=Lib.hid hgo
    have HR:=Lib.hid HR
    clear hgo hb hdk hxk hxs d0 HOF
    go_wp2_with fail
    refine HR.out.mono ?_
    rintro e w' ⟨rfl,rfl⟩
    go_wp2_with fail
    refine bodyPost_ret (results_tmp2 rfl _ _ _) rfl ?_
    rw[←HN.out]
    exact⟨rfl,HB.out⟩
   | true=>
    rw[hb]at HR hgo
    have HR:=Lib.hid HR
    by_cases hv:0≤ofF f x
    ·rw[if_pos ⟨rfl,hv⟩]at hgo
     obtain⟨y,hy⟩: ∃y,ofF f x=y:=⟨_,rfl⟩
     rw[hy]at HOF hv
     have hd:decide (y<0)=false:=by simpa using hv
     have HOF:=Lib.hid HOF
     have HN:=Lib.hid hgo
     clear hgo hb hdk hxk hxs d0 hy hv
     go_wp2_with fail
     refine HR.out.mono ?_
     rintro e w' ⟨rfl,rfl⟩
     go_wp2_with fail
     refine HOF.out.mono ?_
     rintro e w' ⟨rfl,rfl⟩
     go_wp2_with fail
     refine HPT.out.mono ?_
     rintro e w4 ⟨rfl,⟨n',hn',hm'⟩,hk'⟩
     have HM4:=Lib.hid hm'
     have HB4:=Lib.hid (HB.out.trans (hk'.below (fun g e=>by rw[e];exact Nat.le_refl _) HB.out.size))
     clear hm' hk'
     go_wp2_with fail
     go_roundw
     case rel=>exact⟨k+1,n',_,by omega,by go_num,by omega,HN,Lib.hid (okF_put HF.out x),HM4,HB4⟩
     case measure=>simp[intOf];omega
    ·rw[if_neg (fun h=>hv h.2)]at hgo
     obtain⟨y,hy⟩: ∃y,ofF f x=y:=⟨_,rfl⟩
     rw[hy]at HOF hv
     have hd:decide (y<0)=true:=by simpa using hv
     have HOF:=Lib.hid HOF
     have HN:=Lib.hid hgo
     clear hgo hb hdk hxk hxs d0 hy hv
     go_wp2_with fail
     refine HR.out.mono ?_
     rintro e w' ⟨rfl,rfl⟩
     go_wp2_with fail
     refine HOF.out.mono ?_
     rintro e w' ⟨rfl,rfl⟩
     go_wp2_with fail
     refine bodyPost_ret (results_tmp2 rfl _ _ _) rfl ?_
     rw[←HN.out]
     exact⟨rfl,HB.out⟩
  ·obtain rfl:k=xs.length:=by omega
   have hgo:=HG.out
   rw[List.drop_length]at hgo
   have HN:=Lib.hid (show some f=res from hgo)
   clear hgo
   go_wp2_with fail
   refine bodyPost_ret (results_tmp2 rfl _ _ _) rfl ?_
   rw[←HN.out]
   exact⟨⟨_,n,rfl,Nat.le_refl _,hn,HM.out,HF.out⟩,HB.out⟩
end Go.Proofs.YtkfgplfllddhnaaGreatDoor
namespace Go.Proofs.YtkfgplfllddhnaaGreatDoor
open Go.RowKit Go.Maps Go.Shelf
set_option maxRecDepth 100000 in
set_option maxHeartbeats 2000000 in
theorem rup_look {O:Nat→Prop} (b n:Nat) (f:Int→Int) (u:Value) (xs:List Int) (w:World) (h:MapAt w b n f) (hf:okF f) (hu:IntsIn O w u xs) (hlen:xs.length≤100000000000):
  Calls Tryz.prog 92 #[.map (some b),u] w fun e w'=>e= .returned (.tuple #[.int .u8 ((lookF f xs).1:Nat),.int .i64 (lookF f xs).2])∧w=w':=by
 have HX:=Lib.hid hu
 obtain⟨A,c,rfl,hc,_,_⟩:=hu
 obtain⟨K,hK⟩: ∃z,(lookF f xs).1=z:=⟨_,rfl⟩
 obtain⟨U,hU⟩: ∃z,(lookF f xs).2=z:=⟨_,rfl⟩
 have HL:=Lib.hid (show lukGo f 2 0 xs=(K,U)from Prod.ext hK hU)
 rw[hK,hU]
 have HO:=Lib.hid (fun l=>rup_of b n f l w h hf)
 clear h hf hK hU
 go_enter Tryz.func92,Tryz.ntmps92
 go_wp2_with fail
 refine wp_scope_straight ?_
 go_wp2_with fail
 refine wp_label ?_
 go_wp2_with fail
 go_loopw [6,7,13] (fun kv uv iv wr=> ∃(j k:Nat) (t:Int),j≤xs.length∧iv= .int .i64 j∧kv= .int .u8 (k:Nat)∧uv= .int .i64 t∧Hid (lukGo f k t (xs.drop j)=(K,U))∧wr=w) (fun _ _ iv _=>xs.length-(intOf iv).toNat)
 case atStart=>exact⟨0,2,0,Nat.zero_le _,rfl,rfl,rfl,HL,rfl⟩
 case round=>
  obtain⟨j,k,t,hj,rfl,rfl,rfl,HG,rfl⟩:=hrel
  by_cases hlt:j<xs.length
  ·obtain⟨x,hxk⟩:=getElem_of hlt
   obtain⟨A',c',hAc,_,_,hxs⟩:=HX.out
   simp only[Value.slice.injEq,true_and]at hAc
   obtain⟨rfl,rfl⟩:=hAc
   obtain⟨g,o,rfl,hg,_,d0⟩:=hxs j x hxk
   have hdk:xs.drop j=x::xs.drop (j+1):=by
    rw[List.drop_eq_getElem_cons hlt]
    rw[List.getElem?_eq_getElem hlt]at hxk
    rw[Option.some.inj hxk]
   have hgo:=HG.out
   rw[hdk]at hgo
   simp only[lukGo]at hgo
   have HOF:=HO.out x
   obtain⟨y,hy⟩: ∃y,ofF f x=y:=⟨_,rfl⟩
   rw[hy]at HOF hgo
   have HOF:=Lib.hid HOF
   clear hxk hxs hdk hy HG
   by_cases h1:0<y
   ·rw[if_pos h1]at hgo
    have d1:decide (0<y)=true:=by simpa using h1
    have HKU:=Lib.hid hgo
    clear hgo h1
    go_wp2_with fail
    refine HOF.out.mono ?_
    rintro e w' ⟨rfl,rfl⟩
    go_wp2_with fail
    rw[Exit.noGoto_ret]
    refine bodyPost_ret (results_tmp2 rfl _ _ _) rfl ?_
    have h:=HKU.out
    simp only[Prod.mk.injEq]at h
    obtain⟨rfl,rfl⟩:=h
    exact⟨rfl,rfl⟩
   ·rw[if_neg h1]at hgo
    have d1:decide (0<y)=false:=by simpa using h1
    by_cases h2:y<0
    ·rw[if_pos (.inl h2)]at hgo
     have d2:decide (y<0)=true:=by simpa using h2
     have HG:=Lib.hid hgo
     clear hgo h1 h2
     go_wp2_with fail
     refine HOF.out.mono ?_
     rintro e w' ⟨rfl,rfl⟩
     go_wp2_with fail
     go_roundw
     case rel=>exact⟨j+1,k,t,by omega,by go_num,rfl,rfl,HG,trivial⟩
     case measure=>simp[intOf];omega
    ·have d2:decide (y<0)=false:=by simpa using h2
     by_cases h3:x=t
     ·rw[if_pos (.inr h3)]at hgo
      have d3:(x==t)=true:=by simpa using h3
      have HG:=Lib.hid hgo
      clear hgo h1 h2 h3
      go_wp2_with fail
      refine HOF.out.mono ?_
      rintro e w' ⟨rfl,rfl⟩
      go_wp2_with fail
      go_roundw
      case rel=>exact⟨j+1,k,t,by omega,by go_num,rfl,rfl,HG,trivial⟩
      case measure=>simp[intOf];omega
     ·rw[if_neg (fun h=>h.elim h2 h3)]at hgo
      have d3:(x==t)=false:=by simpa using h3
      by_cases h4:t=0
      ·rw[if_pos h4]at hgo
       have d4:(t==0)=true:=by simpa using h4
       have HG:=Lib.hid hgo
       clear hgo h1 h2 h3 h4
       go_wp2_with fail
       refine HOF.out.mono ?_
       rintro e w' ⟨rfl,rfl⟩
       go_wp2_with fail
       go_roundw
       case rel=>exact⟨j+1,3,x,by omega,by go_num,rfl,rfl,HG,trivial⟩
       case measure=>simp[intOf];omega
      ·rw[if_neg h4]at hgo
       have d4:(t==0)=false:=by simpa using h4
       have HG:=Lib.hid hgo
       clear hgo h1 h2 h3 h4
       go_wp2_with fail
       refine HOF.out.mono ?_
       rintro e w' ⟨rfl,rfl⟩
       go_wp2_with fail
       go_roundw
       case rel=>exact⟨j+1,4,t,by omega,by go_num,rfl,rfl,HG,trivial⟩
       case measure=>simp[intOf];omega
  ·obtain rfl:j=xs.length:=by omega
   have hgo:=HG.out
   rw[List.drop_length]at hgo
   simp only[lukGo,Prod.mk.injEq]at hgo
   obtain⟨rfl,hgo⟩:=hgo
   by_cases h3:k=3
   ·rw[if_pos h3]at hgo
    have d3:((k:Int) != 3)=false:=by simp[h3]
    have HG:=Lib.hid hgo
    clear hgo h3
    go_wp2_with fail
    rw[Exit.noGoto_ret]
    refine bodyPost_ret (results_tmp2 rfl _ _ _) rfl ?_
    rw[←HG.out]
    exact⟨rfl,rfl⟩
   ·rw[if_neg h3]at hgo
    have d3:((k:Int) != 3)=true:=by simp;omega
    have HG:=Lib.hid hgo
    clear hgo h3
    go_wp2_with fail
    rw[Exit.noGoto_ret]
    refine bodyPost_ret (results_tmp2 rfl _ _ _) rfl ?_
    rw[←HG.out]
    exact⟨rfl,rfl⟩
end Go.Proofs.YtkfgplfllddhnaaGreatDoor
namespace Go.Proofs.YtkfgplfllddhnaaGreatDoor
open Go.RowKit
theorem info_lit:(Tryz.prog.info? 31).map (fun i=>(i.zero,i.size,i.bytes))=some (some (.int .i64 0),1,8):=by kernel_rfl
def madeLit (x:Int):Int:=if x%2=1 then -(1+(x%256/2)%6)else 1+(x%256/2)%6
def madeL (xs:List Int):List Int:=(xs.take 6).map madeLit
theorem madeLit_rng (x:Int):(-6≤madeLit x∧madeLit x≤6)∧madeLit x≠0:=by
 unfold madeLit
 split <;> omega
theorem i8_rng {x:Int} (h:(Lit.int .i8 x).wf=true): -128≤x∧x≤127:=by
 simp only[Lit.wf,Bool.and_eq_true,decide_eq_true_eq]at h
 exact⟨h.1,h.2⟩
theorem and_one_fin: ∀i:Fin 256,bits BinOp.and IntKind.i8 ((i:Nat)-128:Int) 1=(((i:Nat)-128:Int))%2:=by decide +kernel
theorem and_one {x:Int} (h1: -128≤x) (h2:x≤127):bits BinOp.and IntKind.i8 x 1=x%2:=by
 have h:=and_one_fin ⟨(x+128).toNat,by omega⟩
 have e:(((x+128).toNat:Nat):Int)-128=x:=by omega
 simp only[e]at h
 exact h
theorem below_alloc1 (w:World) (o:Obj):Below w.heap.size w (w.alloc o):=(Below.refl _ _).alloc (Nat.le_refl _) _
set_option maxRecDepth 100000 in
set_option maxHeartbeats 2000000 in
theorem made_long (u:Value) (xs:List Int) (w:World) (h:RowAt .i8 w u xs) (h6:(6:Int)<(xs.length:Int)):
  Calls Tryz.prog 29 #[u] w fun e w'=> ∃v,e= .returned v∧w'.ownsRow w.heap.size 31 1 v 6 (((xs.take 6).map madeLit).map (Value.int .i64))∧Below w.heap.size w w':=by
 obtain⟨i0,hi,hz0,hz1,hz2⟩:=info_parts info_lit
 obtain⟨A,c,rfl,hc,hmx,hn,hw,hx⟩:=h
 unfold maxLen at hmx
 have HX:=Lib.hid hx
 have HW:=Lib.hid hw
 clear hx hw hn
 go_enter Tryz.func29,Tryz.ntmps29
 go_wp2_with fail
 go_loopw [3,13] (fun v i wr=> ∃k:Nat,k≤6∧i= .int .i64 k∧Hid (Below w.heap.size w wr)∧Hid (wr.ownsRow w.heap.size 31 1 v k (((xs.take k).map madeLit).map (Value.int .i64)))) (fun _ i _=>6-(intOf i).toNat)
 case atStart=>exact⟨0,Nat.zero_le _,rfl,Lib.hid (Below.refl _ _),Lib.hid (World.ownsRow_nil _ _ _ _)⟩
 case round=>
  obtain⟨k,hk,rfl,HB,HR⟩:=hrel
  by_cases hlt:k<6
  ·obtain⟨x,hxk⟩:=getElem_of (show k<xs.length by omega)
   obtain⟨g,o,rfl,hg,d0⟩:=HX.out k x hxk
   have d1:=(HB.out.cell (p:=⟨g,o+k,none⟩) hg).trans d0
   have hwx:=i8_rng (HW.out x (List.mem_of_getElem? hxk))
   obtain⟨hx1,hx2⟩:=hwx
   have HXK:=Lib.hid hxk
   clear hxk d0
   have hbx:=and_one hx1 hx2
   cases hodd:decide (x%2=1)with
   | true=>
    have hq:(bits BinOp.and IntKind.i8 x 1==1)=true:=by rw[hbx];simpa using hodd
    have HLX:Hid (madeLit x= -(1+x%256/2%6)):=Lib.hid (by unfold madeLit;rw[if_pos (of_decide_eq_true hodd)])
    clear hbx hodd
    go_wp2_with (at_builtin;refine wpList_append_own_at _ rfl _ _ 30 rfl w.heap.size 31 i0 (.int .i64 0) 1 8 Tryz.underlying30 hi hz0 hz1 hz2 rfl (by decide) _ k _ rfl (own_below HR.out (below_alloc1 wr _)) ⟨wr.heap.size,0,none⟩ 1 1 [.int .i64 (-(1+x%256/2%6))] rfl rfl (cell_one_new' _ _ _) (by simp[Value.oneCell']) (by unfold maxLen;omega) (by omega) (by have:=HB.out.size;simp;omega) ?_;intro v' w1 hown hgrow hnl hat)
    obtain⟨Av,kv,rfl,_⟩:=mx_slice hown
    have hb1:Below w.heap.size w w1:=(HB.out.trans ((below_alloc1 wr (.cells #[.int .i64 (-(1+x%256/2%6))] 31)).mono HB.out.size)).grown hgrow (by have:=HB.out.size;simp;omega) (fun g hg=>(own_lt HR.out g hg).1)
    have htk:((xs.take (k+1)).map madeLit).map (Value.int .i64)=((xs.take k).map madeLit).map (Value.int .i64)++ [.int .i64 (-(1+x%256/2%6))]:=by
     rw[List.take_add_one,HXK.out,←HLX.out]
     simp
    have HO:=Lib.hid hown
    have HB1:=Lib.hid hb1
    have HTK:=Lib.hid htk
    clear hown hgrow hnl hat hb1 htk
    go_wp2
    go_roundw
    case rel=>exact⟨k+1,by omega,by go_num,HB1,Lib.hid (by rw[HTK.out];exact HO.out)⟩
    case measure=>simp[intOf];omega
   | false=>
    have hq:(bits BinOp.and IntKind.i8 x 1==1)=false:=by rw[hbx];simpa using hodd
    have HLX:Hid (madeLit x=1+x%256/2%6):=Lib.hid (by unfold madeLit;rw[if_neg (of_decide_eq_false hodd)])
    clear hbx hodd
    go_wp2_with (at_builtin;refine wpList_append_own_at _ rfl _ _ 30 rfl w.heap.size 31 i0 (.int .i64 0) 1 8 Tryz.underlying30 hi hz0 hz1 hz2 rfl (by decide) _ k _ rfl (own_below HR.out (below_alloc1 wr _)) ⟨wr.heap.size,0,none⟩ 1 1 [.int .i64 (1+x%256/2%6)] rfl rfl (cell_one_new' _ _ _) (by simp[Value.oneCell']) (by unfold maxLen;omega) (by omega) (by have:=HB.out.size;simp;omega) ?_;intro v' w1 hown hgrow hnl hat)
    obtain⟨Av,kv,rfl,_⟩:=mx_slice hown
    have hb1:Below w.heap.size w w1:=(HB.out.trans ((below_alloc1 wr (.cells #[.int .i64 (1+x%256/2%6)] 31)).mono HB.out.size)).grown hgrow (by have:=HB.out.size;simp;omega) (fun g hg=>(own_lt HR.out g hg).1)
    have htk:((xs.take (k+1)).map madeLit).map (Value.int .i64)=((xs.take k).map madeLit).map (Value.int .i64)++ [.int .i64 (1+x%256/2%6)]:=by
     rw[List.take_add_one,HXK.out,←HLX.out]
     simp
    have HO:=Lib.hid hown
    have HB1:=Lib.hid hb1
    have HTK:=Lib.hid htk
    clear hown hgrow hnl hat hb1 htk
    go_wp2
    go_roundw
    case rel=>exact⟨k+1,by omega,by go_num,HB1,Lib.hid (by rw[HTK.out];exact HO.out)⟩
    case measure=>simp[intOf];omega
  ·obtain rfl:k=6:=by omega
   go_wp2_with fail
   go_ret
   exact⟨_,rfl,HR.out,HB.out⟩
set_option maxRecDepth 100000 in
set_option maxHeartbeats 2000000 in
theorem made_short (u:Value) (xs:List Int) (w:World) (h:RowAt .i8 w u xs) (h6:(xs.length:Int)≤6):
  Calls Tryz.prog 29 #[u] w fun e w'=> ∃v,e= .returned v∧w'.ownsRow w.heap.size 31 1 v xs.length (((xs.take xs.length).map madeLit).map (Value.int .i64))∧Below w.heap.size w w':=by
 obtain⟨i0,hi,hz0,hz1,hz2⟩:=info_parts info_lit
 obtain⟨A,c,rfl,hc,hmx,hn,hw,hx⟩:=h
 unfold maxLen at hmx
 have HX:=Lib.hid hx
 have HW:=Lib.hid hw
 clear hx hw hn
 go_enter Tryz.func29,Tryz.ntmps29
 go_wp2_with fail
 go_loopw [3,13] (fun v i wr=> ∃k:Nat,k≤xs.length∧i= .int .i64 k∧Hid (Below w.heap.size w wr)∧Hid (wr.ownsRow w.heap.size 31 1 v k (((xs.take k).map madeLit).map (Value.int .i64)))) (fun _ i _=>xs.length-(intOf i).toNat)
 case atStart=>exact⟨0,Nat.zero_le _,rfl,Lib.hid (Below.refl _ _),Lib.hid (World.ownsRow_nil _ _ _ _)⟩
 case round=>
  obtain⟨k,hk,rfl,HB,HR⟩:=hrel
  by_cases hlt:k<xs.length
  ·obtain⟨x,hxk⟩:=getElem_of (show k<xs.length by omega)
   obtain⟨g,o,rfl,hg,d0⟩:=HX.out k x hxk
   have d1:=(HB.out.cell (p:=⟨g,o+k,none⟩) hg).trans d0
   have hwx:=i8_rng (HW.out x (List.mem_of_getElem? hxk))
   obtain⟨hx1,hx2⟩:=hwx
   have HXK:=Lib.hid hxk
   clear hxk d0
   have hbx:=and_one hx1 hx2
   cases hodd:decide (x%2=1)with
   | true=>
    have hq:(bits BinOp.and IntKind.i8 x 1==1)=true:=by rw[hbx];simpa using hodd
    have HLX:Hid (madeLit x= -(1+x%256/2%6)):=Lib.hid (by unfold madeLit;rw[if_pos (of_decide_eq_true hodd)])
    clear hbx hodd
    go_wp2_with (at_builtin;refine wpList_append_own_at _ rfl _ _ 30 rfl w.heap.size 31 i0 (.int .i64 0) 1 8 Tryz.underlying30 hi hz0 hz1 hz2 rfl (by decide) _ k _ rfl (own_below HR.out (below_alloc1 wr _)) ⟨wr.heap.size,0,none⟩ 1 1 [.int .i64 (-(1+x%256/2%6))] rfl rfl (cell_one_new' _ _ _) (by simp[Value.oneCell']) (by unfold maxLen;omega) (by omega) (by have:=HB.out.size;simp;omega) ?_;intro v' w1 hown hgrow hnl hat)
    obtain⟨Av,kv,rfl,_⟩:=mx_slice hown
    have hb1:Below w.heap.size w w1:=(HB.out.trans ((below_alloc1 wr (.cells #[.int .i64 (-(1+x%256/2%6))] 31)).mono HB.out.size)).grown hgrow (by have:=HB.out.size;simp;omega) (fun g hg=>(own_lt HR.out g hg).1)
    have htk:((xs.take (k+1)).map madeLit).map (Value.int .i64)=((xs.take k).map madeLit).map (Value.int .i64)++ [.int .i64 (-(1+x%256/2%6))]:=by
     rw[List.take_add_one,HXK.out,←HLX.out]
     simp
    have HO:=Lib.hid hown
    have HB1:=Lib.hid hb1
    have HTK:=Lib.hid htk
    clear hown hgrow hnl hat hb1 htk
    go_wp2
    go_roundw
    case rel=>exact⟨k+1,by omega,by go_num,HB1,Lib.hid (by rw[HTK.out];exact HO.out)⟩
    case measure=>simp[intOf];omega
   | false=>
    have hq:(bits BinOp.and IntKind.i8 x 1==1)=false:=by rw[hbx];simpa using hodd
    have HLX:Hid (madeLit x=1+x%256/2%6):=Lib.hid (by unfold madeLit;rw[if_neg (of_decide_eq_false hodd)])
    clear hbx hodd
    go_wp2_with (at_builtin;refine wpList_append_own_at _ rfl _ _ 30 rfl w.heap.size 31 i0 (.int .i64 0) 1 8 Tryz.underlying30 hi hz0 hz1 hz2 rfl (by decide) _ k _ rfl (own_below HR.out (below_alloc1 wr _)) ⟨wr.heap.size,0,none⟩ 1 1 [.int .i64 (1+x%256/2%6)] rfl rfl (cell_one_new' _ _ _) (by simp[Value.oneCell']) (by unfold maxLen;omega) (by omega) (by have:=HB.out.size;simp;omega) ?_;intro v' w1 hown hgrow hnl hat)
    obtain⟨Av,kv,rfl,_⟩:=mx_slice hown
    have hb1:Below w.heap.size w w1:=(HB.out.trans ((below_alloc1 wr (.cells #[.int .i64 (1+x%256/2%6)] 31)).mono HB.out.size)).grown hgrow (by have:=HB.out.size;simp;omega) (fun g hg=>(own_lt HR.out g hg).1)
    have htk:((xs.take (k+1)).map madeLit).map (Value.int .i64)=((xs.take k).map madeLit).map (Value.int .i64)++ [.int .i64 (1+x%256/2%6)]:=by
     rw[List.take_add_one,HXK.out,←HLX.out]
     simp
    have HO:=Lib.hid hown
    have HB1:=Lib.hid hb1
    have HTK:=Lib.hid htk
    clear hown hgrow hnl hat hb1 htk
    go_wp2
    go_roundw
    case rel=>exact⟨k+1,by omega,by go_num,HB1,Lib.hid (by rw[HTK.out];exact HO.out)⟩
    case measure=>simp[intOf];omega
  ·obtain rfl:k=xs.length:=by omega
   go_wp2_with fail
   go_ret
   exact⟨_,rfl,HR.out,HB.out⟩
theorem made_any (u:Value) (xs:List Int) (w:World) (h:RowAt .i8 w u xs):
  Calls Tryz.prog 29 #[u] w fun e w'=> ∃v,e= .returned v∧w'.ownsRow w.heap.size 31 1 v (madeL xs).length ((madeL xs).map (Value.int .i64))∧Below w.heap.size w w':=by
 by_cases h6:6<xs.length
 ·have e:(madeL xs).length=6:=by simp[madeL];omega
  rw[e]
  exact made_long u xs w h (by omega)
 ·have e:madeL xs=(xs.take xs.length).map madeLit:=by unfold madeL;rw[List.take_of_length_le (by omega),List.take_length]
  rw[e]
  have:=made_short u xs w h (by omega)
  rwa [show((xs.take xs.length).map madeLit).length=xs.length by simp]
end Go.Proofs.YtkfgplfllddhnaaGreatDoor
