/- The examples of chapter 10: awake. package salvorlaw10: ProofDoes. -/
import Derived.Test.YtajbmjpodeilpaaGreatV133
import Derived.Test.YtajbmjpodeilpaaGreatV129
import Derived.Test.YtajbmjpodeilpaaGreatV132
namespace Go.Proofs.YtajbmjpodeilpaaGreat
open Go.RowKit
theorem trim_ex:TrimEx:=by
 intro O Os lv sv w h hs
 refine(proof_trim 2 _ _ fourC exM w h four_ok.1 (by decide) four_ok.2 hs (by decide) (by decide)).mono ?_
 rintro e w' ⟨ht,hb⟩
 unfold TrimOut at ht
 rw[ex_run,if_neg (fun h=>h rfl),ex_trm,if_neg (fun h=>by cases h)]at ht
 obtain⟨v,K,rfl,hK,hm⟩:=ht
 rw[ex_bk]at hK
 have hl:K.length=2:=by simpa using congrArg List.length hK
 obtain⟨x,y,rfl⟩: ∃x y,K= [x,y]:=by
  rcases K with _|⟨x,_|⟨y,_|⟨z,r⟩⟩⟩
  ·cases hl
  ·cases hl
  ·exact⟨x,y,rfl⟩
  ·simp at hl
 have hx:x.1=⟨false,6,[2],[1,2]⟩:=(List.cons.inj hK).1
 obtain⟨g,c,rfl⟩:=ownsRow_succ hm.row
 obtain⟨-,e1,-,-⟩:=stcell_at [x,y] 0 x rfl
 have:=mx_at hm.row e1
 rw[hx]at this
 exact⟨g,c,rfl,this,hb⟩
theorem awake10_any (w:World):Calls Tryz.prog 7 #[] w fun e w'=>e= .returned (.bool true)∧Below w.heap.size w w':=awake10_core trim_ex w
end Go.Proofs.YtajbmjpodeilpaaGreat
namespace Go.Proofs.YtajbmjpodeilpaaGreat
open Go.RowKit
theorem few10_parts {cs:List (List Int)} {ss:List EStep} (h:few10 cs ss=true):cs.length≤30∧(∀c∈cs,c.length≤10)∧ss.length≤30∧∀s∈ss,s.lits.length≤10∧s.hints.length≤20:=by
 unfold few10 fewO at h
 simp only[Bool.and_eq_true,decide_eq_true_eq,Bool.not_eq_true',List.any_eq_false]at h
 obtain⟨⟨h1,h2⟩,h3,h4⟩:=h
 refine⟨by omega,fun c hc=>?_,by omega,fun s hs=>?_⟩
 ·have:=h2 c hc
  omega
 ·have:=h4 s hs
  unfold fewS at this
  simp only[Bool.or_eq_true,decide_eq_true_eq,not_or]at this
  omega
set_option maxRecDepth 100000 in
set_option maxHeartbeats 4000000 in
theorem proofDoes_any {O O':Nat→Prop} (vn:Int) (u v:Value) (cs:List (List Int)) (ss:List EStep) (w:World) (h:ClsIn O w u cs) (h':StepIn O' w v ss) (hr: ∀s∈ss,∀x∈s.hints,-9223372036854775808≤x∧x≤9223372036854775807):
  Calls Tryz.prog 4 #[.agg #[.int .i64 vn,u],v] w fun e w'=>e= .returned (.bool true)∧Below w.heap.size w w':=by
 obtain⟨W1,hW1,hb1,hx1,hz1⟩:=al_new w #[.int .i64 vn,u] 24
 have hlt1:=heap_lt hx1
 have HX1:=Lib.hid hx1
 have HB1:=Lib.hid hb1
 have HFW:=Lib.hid (few_10 vn u v cs ss W1 (h.below hb1) (h'.below hb1))
 have HDO:=Lib.hid (fun(hf:few10 cs ss=true) (X:World) (hX:Below W1.heap.size W1 X)=>by
  obtain⟨q1,q2,q3,q4⟩:=few10_parts hf
  exact does_any vn u v cs ss X ((h.below hb1).below hX) ((h'.below hb1).below hX) (by omega) (fun c hc=>by have:=q2 c hc;omega) (by omega) (fun s hs=>⟨by have:=q4 s hs;omega,by have:=q4 s hs;omega,hr s hs⟩))
 have HAW:=Lib.hid (fun X=>awake10_any X)
 have HW1:=Lib.hid hW1
 obtain⟨Af,cf,rfl,hcf,_⟩:=h
 obtain⟨As,cS,rfl,hcS,_⟩:=h'
 obtain⟨fb,hfb⟩: ∃fb,few10 cs ss=fb:=⟨_,rfl⟩
 rw[hfb]at HFW HDO
 have c0:=mx_cell (j:=0) hx1
 have c1:=mx_cell (j:=1) hx1
 clear hW1 hb1 hx1 hfb hr
 go_enter Tryz.func4,Tryz.ntmps4
 go_upto_region 1 with fail
 rw[HW1.out]
 cases fb with
 | false=>
  go_wp2_with fail
  refine HFW.out.mono ?_
  rintro e w1 ⟨rfl,hb⟩
  have HB2:=Lib.hid (HB1.out.trans (hb.mono HB1.out.size))
  have c0:=(hb.cell (p:=⟨w.heap.size,0,none⟩) hlt1).trans c0
  have c1:=(hb.cell (p:=⟨w.heap.size,1,none⟩) hlt1).trans c1
  clear hb
  go_wp2_with fail
  refine(HAW.out w1).mono ?_
  rintro e w2 ⟨rfl,hb⟩
  have HB3:=Lib.hid (HB2.out.trans (hb.mono HB2.out.size))
  clear hb
  go_wp2_with fail
  go_ret
  exact⟨rfl,HB3.out⟩
 | true=>
  go_wp2_with fail
  refine HFW.out.mono ?_
  rintro e w1 ⟨rfl,hb⟩
  have HBb:=Lib.hid hb
  have HB2:=Lib.hid (HB1.out.trans (hb.mono HB1.out.size))
  have c0:=(hb.cell (p:=⟨w.heap.size,0,none⟩) hlt1).trans c0
  have c1:=(hb.cell (p:=⟨w.heap.size,1,none⟩) hlt1).trans c1
  clear hb
  go_wp2_with fail
  refine(HDO.out (by first|rfl|trivial) w1 HBb.out).mono ?_
  rintro e w2 ⟨rfl,hb⟩
  have HB3:=Lib.hid (HB2.out.trans (hb.mono HB2.out.size))
  clear hb
  go_wp2_with fail
  refine(HAW.out w2).mono ?_
  rintro e w3 ⟨rfl,hb⟩
  have HB4:=Lib.hid (HB3.out.trans (hb.mono HB3.out.size))
  clear hb
  go_wp2_with fail
  go_ret
  exact⟨rfl,HB4.out⟩
end Go.Proofs.YtajbmjpodeilpaaGreat
