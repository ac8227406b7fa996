/- Logs in a law's own blocks; awake of salvorlaw17. A set of integers kept in a map[int]int that the program made: what is in it has 1. -/
import Derived.Test.YteigjcichmpejaaDoorV124
import Derived.Test.YteigjcichmpejaaDoorV101
import Derived.Maps.OwnSet
namespace Go.Proofs.YteigjcichmpejaaDoor
open Go.RowKit
def LogIn (X:Nat→Prop) (B:Nat) (w:World) (b:Nat) (L:ELog):Prop:=LogAt (fun g=>B≤g∧g<w.heap.size∧¬X g) w b L∧L.Inv∧B≤w.heap.size
theorem LogIn.lt {X:Nat→Prop} {B:Nat} {w:World} {b:Nat} {L:ELog} (h:LogIn X B w b L):b<w.heap.size:=by
 obtain⟨⟨mb,sv,ms,h⟩,_⟩:=h
 exact heap_lt h.block
theorem LogIn.size {X:Nat→Prop} {B:Nat} {w:World} {b:Nat} {L:ELog} (h:LogIn X B w b L):B≤w.heap.size:=h.2.2
theorem LogIn.below {X:Nat→Prop} {B:Nat} {w w':World} {b:Nat} {L:ELog} (h:LogIn X B w b L) (hb:Below w.heap.size w w'):LogIn X B w' b L:=
 ⟨(h.1.below hb).mono (fun _ hg=>⟨hg.1,Nat.lt_of_lt_of_le hg.2.1 hb.size,hg.2.2⟩) (fun _ hg=>hg.2.1),h.2.1,Nat.le_trans h.2.2 hb.size⟩
theorem LogNext.isin {X:Nat→Prop} {B:Nat} {w1 w w':World} {b:Nat} {L':ELog} (h:LogNext (fun g=>B≤g∧g<w1.heap.size∧¬X g) w w' b L') (hi:L'.Inv) (hB:B≤w1.heap.size) (hw:w1.heap.size≤w.heap.size) (hX: ∀g,X g→g<w1.heap.size):
  LogIn X B w' b L'∧Kept (fun g=>B≤g∧g<w1.heap.size∧¬X g) w w':=by
 have hs:=h.2.size
 refine⟨⟨h.1.mono (fun g hg=>?_) (fun g hg=>hg.2.1),hi,by omega⟩,h.2⟩
 rcases hg with hg|hg
 ·exact⟨hg.1,by omega,hg.2.2⟩
 ·exact⟨by omega,hg.2,fun hx=>by have:=hX g hx;omega⟩
theorem learn_in {X:Nat→Prop} (B b:Nat) (L:ELog) (cv hv:Value) (c h:List Int) (w1 w:World) (hL:LogIn X B w1 b L) (hw:Below w1.heap.size w1 w) (hX: ∀g,X g→g<w1.heap.size) (hc:IntsIn (fun g=>w1.heap.size≤g∨g<B∨X g) w cv c) (hh:IntsIn (fun g=>w1.heap.size≤g∨g<B∨X g) w hv h)
  (hcl:c.length≤140737488355328) (hhl:h.length≤17592186044416) (hwf: ∀x∈h,(Lit.int .i64 x).wf=true):
  Calls Tryd.prog 9 #[.pointer (some ⟨b,0,none⟩),cv,hv] w fun e w'=>e= .returned (.tuple #[.int .i64 (learnNum L c h),.int .i64 (learnErr L c h:Nat)])∧LogIn X B w' b (learnLog L c h)∧Kept (fun g=>B≤g∧g<w1.heap.size∧¬X g) w w':=by
 have hd: ∀g,(w1.heap.size≤g∨g<B∨X g)→¬(B≤g∧g<w1.heap.size∧¬X g):=fun g hg hn=>by
  rcases hg with hg|hg|hg
  ·omega
  ·omega
  ·exact hn.2.2 hg
 exact(learn_any b L cv hv c h w (hL.1.below hw) hL.2.1 hc hh hd hd hcl hhl hwf).mono fun e w' ⟨h1,h2⟩=>⟨h1,h2.isin (inv_learnLog hL.2.1) hL.2.2 hw.size hX⟩
theorem forget_in {X:Nat→Prop} (B b:Nat) (L:ELog) (iv:Value) (ids:List Int) (w1 w:World) (hL:LogIn X B w1 b L) (hw:Below w1.heap.size w1 w) (hX: ∀g,X g→g<w1.heap.size) (hi:IntsIn (fun g=>w1.heap.size≤g∨g<B∨X g) w iv ids)
  (hlen:ids.length≤140737488355328) (hwf: ∀x∈ids,(Lit.int .i64 x).wf=true):
  Calls Tryd.prog 8 #[.pointer (some ⟨b,0,none⟩),iv] w fun e w'=>e= .returned (.tuple #[.int .i64 (forgetNum L ids),.int .i64 (forgetErr L ids:Nat)])∧LogIn X B w' b (forgetLog L ids)∧Kept (fun g=>B≤g∧g<w1.heap.size∧¬X g) w w':=by
 have hd: ∀g,(w1.heap.size≤g∨g<B∨X g)→¬(B≤g∧g<w1.heap.size∧¬X g):=fun g hg hn=>by
  rcases hg with hg|hg|hg
  ·omega
  ·omega
  ·exact hn.2.2 hg
 exact(forget_any b L iv ids w (hL.1.below hw) hL.2.1 hi hlen hwf hd).mono fun e w' ⟨h1,h2⟩=>⟨h1,h2.isin (inv_forgetLog hL.2.1) hL.2.2 hw.size hX⟩
theorem new_in (n:Nat) (w:World) (h:n≤1048576):
  Calls Tryd.prog 5 #[.int .i64 (n:Int)] w fun e w'=>e= .returned (.tuple #[.pointer (some ⟨w.heap.size+1,0,none⟩),.int .i64 0])∧LogIn (fun _=>False) w.heap.size w' (w.heap.size+1) (newLog n)∧Below w.heap.size w w':=
 (new_ok n w h).mono fun _ _ ⟨h1,h2,h3⟩=>⟨h1,⟨h2.mono (fun _ hg=>⟨hg.1,hg.2,fun h=>h⟩) (fun _ hg=>hg.2.1),inv_new n h,h3.size⟩,h3⟩
theorem ints_new (W:World) (xs:List Int) (t:TypeId):IntsIn (fun g=>W.heap.size≤g) (W.alloc (.cells (xs.map (Value.int .i64)).toArray t)) (.slice (some ⟨W.heap.size,0,none⟩) xs.length xs.length) xs:=
 ⟨some ⟨W.heap.size,0,none⟩,xs.length,rfl,Nat.le_refl _,(fun h=>by cases h),fun i x hi=>⟨W.heap.size,0,rfl,by simp,Nat.le_refl _,by
  rw[cell_new,Nat.zero_add]
  simp[hi]⟩⟩
theorem Kept.toBelow {X:Nat→Prop} {B:Nat} {w1 w w':World} (h:Kept (fun g=>B≤g∧g<w1.heap.size∧¬X g) w w') (hB:B≤w.heap.size):Below B w w':=h.below (fun _ hg=>hg.1) hB
theorem below_alloc (w:World) (o:Obj):Below w.heap.size w (w.alloc o):=(Below.refl _ _).alloc (Nat.le_refl _) _
theorem below_alloc2 (w:World) (o o':Obj):Below w.heap.size w ((w.alloc o).alloc o'):=((Below.refl _ _).alloc (Nat.le_refl _) _).alloc (by simp) _
theorem awake_text:proofT [⟨false,5,[2],[1,2]⟩,⟨true,5,[],[1,2,3]⟩,⟨false,6,[],[5,4]⟩]= [53,32,50,32,48,32,49,32,50,32,48,10,53,32,100,32,49,32,50,32,51,32,48,10,54,32,48,32,53,32,52,32,48,10]:=by decide +kernel
theorem aw_n0:learnNum (⟨4,4,[],[],false⟩:ELog) [2] [1,2]=5:=by decide
theorem aw_e0:learnErr (⟨4,4,[],[],false⟩:ELog) [2] [1,2]=0:=by decide
theorem aw_l0:learnLog (⟨4,4,[],[],false⟩:ELog) [2] [1,2]=(⟨5,5,[],[⟨false,5,[2],[1,2]⟩],false⟩:ELog):=rfl
theorem aw_n1:forgetNum (⟨5,5,[],[⟨false,5,[2],[1,2]⟩],false⟩:ELog) [1,2]=2:=by decide
theorem aw_e1:forgetErr (⟨5,5,[],[⟨false,5,[2],[1,2]⟩],false⟩:ELog) [1,2]=0:=by decide
theorem aw_l1:forgetLog (⟨5,5,[],[⟨false,5,[2],[1,2]⟩],false⟩:ELog) [1,2]=(⟨5,3,[1,2],[⟨false,5,[2],[1,2]⟩,⟨true,5,[],[1,2]⟩],false⟩:ELog):=rfl
theorem aw_n2:forgetNum (⟨5,3,[1,2],[⟨false,5,[2],[1,2]⟩,⟨true,5,[],[1,2]⟩],false⟩:ELog) [3]=1:=by decide
theorem aw_e2:forgetErr (⟨5,3,[1,2],[⟨false,5,[2],[1,2]⟩,⟨true,5,[],[1,2]⟩],false⟩:ELog) [3]=0:=by decide
theorem aw_l2:forgetLog (⟨5,3,[1,2],[⟨false,5,[2],[1,2]⟩,⟨true,5,[],[1,2]⟩],false⟩:ELog) [3]=(⟨5,2,[1,2,3],[⟨false,5,[2],[1,2]⟩,⟨true,5,[],[1,2,3]⟩],false⟩:ELog):=rfl
theorem aw_n4:learnNum (⟨5,2,[1,2,3],[⟨false,5,[2],[1,2]⟩,⟨true,5,[],[1,2,3]⟩],false⟩:ELog) [4] [1]=0:=by decide
theorem aw_e4:learnErr (⟨5,2,[1,2,3],[⟨false,5,[2],[1,2]⟩,⟨true,5,[],[1,2,3]⟩],false⟩:ELog) [4] [1]=170:=by decide
theorem aw_l4:learnLog (⟨5,2,[1,2,3],[⟨false,5,[2],[1,2]⟩,⟨true,5,[],[1,2,3]⟩],false⟩:ELog) [4] [1]=(⟨5,2,[1,2,3],[⟨false,5,[2],[1,2]⟩,⟨true,5,[],[1,2,3]⟩],false⟩:ELog):=rfl
theorem aw_n5:forgetNum (⟨5,2,[1,2,3],[⟨false,5,[2],[1,2]⟩,⟨true,5,[],[1,2,3]⟩],false⟩:ELog) [5,5]=5:=by decide
theorem aw_e5:forgetErr (⟨5,2,[1,2,3],[⟨false,5,[2],[1,2]⟩,⟨true,5,[],[1,2,3]⟩],false⟩:ELog) [5,5]=170:=by decide
theorem aw_l5:forgetLog (⟨5,2,[1,2,3],[⟨false,5,[2],[1,2]⟩,⟨true,5,[],[1,2,3]⟩],false⟩:ELog) [5,5]=(⟨5,2,[1,2,3],[⟨false,5,[2],[1,2]⟩,⟨true,5,[],[1,2,3]⟩],false⟩:ELog):=rfl
theorem aw_n6:learnNum (⟨5,2,[1,2,3],[⟨false,5,[2],[1,2]⟩,⟨true,5,[],[1,2,3]⟩],false⟩:ELog) [] [5,4]=6:=by decide
theorem aw_e6:learnErr (⟨5,2,[1,2,3],[⟨false,5,[2],[1,2]⟩,⟨true,5,[],[1,2,3]⟩],false⟩:ELog) [] [5,4]=0:=by decide
theorem aw_l6:learnLog (⟨5,2,[1,2,3],[⟨false,5,[2],[1,2]⟩,⟨true,5,[],[1,2,3]⟩],false⟩:ELog) [] [5,4]=(⟨6,3,[1,2,3],[⟨false,5,[2],[1,2]⟩,⟨true,5,[],[1,2,3]⟩,⟨false,6,[],[5,4]⟩],true⟩:ELog):=rfl
theorem aw_n8:forgetNum (⟨6,3,[1,2,3],[⟨false,5,[2],[1,2]⟩,⟨true,5,[],[1,2,3]⟩,⟨false,6,[],[5,4]⟩],true⟩:ELog) [4]=0:=by decide
theorem aw_e8:forgetErr (⟨6,3,[1,2,3],[⟨false,5,[2],[1,2]⟩,⟨true,5,[],[1,2,3]⟩,⟨false,6,[],[5,4]⟩],true⟩:ELog) [4]=171:=by decide
theorem aw_l8:forgetLog (⟨6,3,[1,2,3],[⟨false,5,[2],[1,2]⟩,⟨true,5,[],[1,2,3]⟩,⟨false,6,[],[5,4]⟩],true⟩:ELog) [4]=(⟨6,3,[1,2,3],[⟨false,5,[2],[1,2]⟩,⟨true,5,[],[1,2,3]⟩,⟨false,6,[],[5,4]⟩],true⟩:ELog):=rfl
set_option maxRecDepth 100000 in
set_option maxHeartbeats 4000000 in
theorem awake_any (w:World) (ht:TabW w):Calls Tryd.prog 4 #[] w fun e w'=>e= .returned (.bool true)∧Below w.heap.size w w':=by
 have HT:=Lib.hid ht
 clear ht
 go_enter Tryd.func4,Tryd.ntmps4
 go_wp2_with fail
 refine(new_in 4 _ (by omega)).mono ?_
 rintro e w1 ⟨rfl,hl,hb⟩
 have HL1:=Lib.hid (show LogIn (fun _=>False) w.heap.size w1 (w.heap.size+1) (⟨4,4,[],[],false⟩:ELog)from hl)
 have HB1:=Lib.hid hb
 have hz1:=hb.size
 clear hl hb
 go_wp2_with fail
 have hb:=below_alloc2 w1 (.cells #[.int .i64 2] 51) (.cells #[.int .i64 1,.int .i64 2] 3)
 have i1:=((ints_new w1 [2] 51).below (below_alloc _ (.cells #[.int .i64 1,.int .i64 2] 3))).mono (O':=fun g=>w1.heap.size≤g∨g<w.heap.size∨False) (fun _ h=>.inl h)
 have i2:=(ints_new (w1.alloc (.cells #[.int .i64 2] 51)) [1,2] 3).mono (O':=fun g=>w1.heap.size≤g∨g<w.heap.size∨False) (fun g h=>.inl (Nat.le_trans (by simp) h))
 rw[World.size_alloc]at i2
 have hc:=learn_in w.heap.size (w.heap.size+1) _ _ _ [2] [1,2] w1 _ HL1.out hb (fun _ h=>h.elim) i1 i2 (by decide) (by decide) (by decide)
 rw[aw_n0,aw_e0,aw_l0]at hc
 have HC:=Lib.hid hc
 have HBB:=Lib.hid hb
 clear hc i1 i2 hb
 refine HC.out.mono ?_
 rintro e w2 ⟨rfl,hl,hk⟩
 have HL2:=Lib.hid hl
 have HB2:=Lib.hid ((HB1.out.trans (HBB.out.mono hz1)).trans (hk.toBelow (Nat.le_trans hz1 HBB.out.size)))
 have hz2:=HB2.out.size
 clear HC HBB hl hk HL1 HB1 hz1
 go_wp2_with fail
 have hb:=below_alloc w2 (.cells #[.int .i64 1,.int .i64 2] 3)
 have i1:=(ints_new w2 [1,2] 3).mono (O':=fun g=>w2.heap.size≤g∨g<w.heap.size∨False) (fun _ h=>.inl h)
 have hc:=forget_in w.heap.size (w.heap.size+1) _ _ [1,2] w2 _ HL2.out hb (fun _ h=>h.elim) i1 (by decide) (by decide)
 rw[aw_n1,aw_e1,aw_l1]at hc
 have HC:=Lib.hid hc
 have HBB:=Lib.hid hb
 clear hc i1 hb
 refine HC.out.mono ?_
 rintro e w3 ⟨rfl,hl,hk⟩
 have HL3:=Lib.hid hl
 have HB3:=Lib.hid ((HB2.out.trans (HBB.out.mono hz2)).trans (hk.toBelow (Nat.le_trans hz2 HBB.out.size)))
 have hz3:=HB3.out.size
 clear HC HBB hl hk HL2 HB2 hz2
 go_wp2_with fail
 have hb:=below_alloc w3 (.cells #[.int .i64 3] 3)
 have i1:=(ints_new w3 [3] 3).mono (O':=fun g=>w3.heap.size≤g∨g<w.heap.size∨False) (fun _ h=>.inl h)
 have hc:=forget_in w.heap.size (w.heap.size+1) _ _ [3] w3 _ HL3.out hb (fun _ h=>h.elim) i1 (by decide) (by decide)
 rw[aw_n2,aw_e2,aw_l2]at hc
 have HC:=Lib.hid hc
 have HBB:=Lib.hid hb
 clear hc i1 hb
 refine HC.out.mono ?_
 rintro e w4 ⟨rfl,hl,hk⟩
 have HL4:=Lib.hid hl
 have HB4:=Lib.hid ((HB3.out.trans (HBB.out.mono hz3)).trans (hk.toBelow (Nat.le_trans hz3 HBB.out.size)))
 have hz4:=HB4.out.size
 clear HC HBB hl hk HL3 HB3 hz3
 go_wp2_with fail
 refine(log_count _ _ _ HL4.out.1).mono ?_
 rintro e w' ⟨rfl,rfl⟩
 go_wp2_with fail
 have hb:=below_alloc2 w4 (.cells #[.int .i64 4] 51) (.cells #[.int .i64 1] 3)
 have i1:=((ints_new w4 [4] 51).below (below_alloc _ (.cells #[.int .i64 1] 3))).mono (O':=fun g=>w4.heap.size≤g∨g<w.heap.size∨False) (fun _ h=>.inl h)
 have i2:=(ints_new (w4.alloc (.cells #[.int .i64 4] 51)) [1] 3).mono (O':=fun g=>w4.heap.size≤g∨g<w.heap.size∨False) (fun g h=>.inl (Nat.le_trans (by simp) h))
 rw[World.size_alloc]at i2
 have hc:=learn_in w.heap.size (w.heap.size+1) _ _ _ [4] [1] w4 _ HL4.out hb (fun _ h=>h.elim) i1 i2 (by decide) (by decide) (by decide)
 rw[aw_n4,aw_e4,aw_l4]at hc
 have HC:=Lib.hid hc
 have HBB:=Lib.hid hb
 clear hc i1 i2 hb
 refine HC.out.mono ?_
 rintro e w5 ⟨rfl,hl,hk⟩
 have HL5:=Lib.hid hl
 have HB5:=Lib.hid ((HB4.out.trans (HBB.out.mono hz4)).trans (hk.toBelow (Nat.le_trans hz4 HBB.out.size)))
 have hz5:=HB5.out.size
 clear HC HBB hl hk HL4 HB4 hz4
 go_wp2_with fail
 have hb:=below_alloc w5 (.cells #[.int .i64 5,.int .i64 5] 3)
 have i1:=(ints_new w5 [5,5] 3).mono (O':=fun g=>w5.heap.size≤g∨g<w.heap.size∨False) (fun _ h=>.inl h)
 have hc:=forget_in w.heap.size (w.heap.size+1) _ _ [5,5] w5 _ HL5.out hb (fun _ h=>h.elim) i1 (by decide) (by decide)
 rw[aw_n5,aw_e5,aw_l5]at hc
 have HC:=Lib.hid hc
 have HBB:=Lib.hid hb
 clear hc i1 hb
 refine HC.out.mono ?_
 rintro e w6 ⟨rfl,hl,hk⟩
 have HL6:=Lib.hid hl
 have HB6:=Lib.hid ((HB5.out.trans (HBB.out.mono hz5)).trans (hk.toBelow (Nat.le_trans hz5 HBB.out.size)))
 have hz6:=HB6.out.size
 clear HC HBB hl hk HL5 HB5 hz5
 go_wp2_with fail
 have hb:=below_alloc w6 (.cells #[.int .i64 5,.int .i64 4] 3)
 have i1:=IntsIn.nil (fun g=>w6.heap.size≤g∨g<w.heap.size∨False) (w6.alloc (.cells #[.int .i64 5,.int .i64 4] 3))
 have i2:=(ints_new w6 [5,4] 3).mono (O':=fun g=>w6.heap.size≤g∨g<w.heap.size∨False) (fun _ h=>.inl h)
 have hc:=learn_in w.heap.size (w.heap.size+1) _ _ _ [] [5,4] w6 _ HL6.out hb (fun _ h=>h.elim) i1 i2 (by decide) (by decide) (by decide)
 rw[aw_n6,aw_e6,aw_l6]at hc
 have HC:=Lib.hid hc
 have HBB:=Lib.hid hb
 clear hc i1 i2 hb
 refine HC.out.mono ?_
 rintro e w7 ⟨rfl,hl,hk⟩
 have HL7:=Lib.hid hl
 have HB7:=Lib.hid ((HB6.out.trans (HBB.out.mono hz6)).trans (hk.toBelow (Nat.le_trans hz6 HBB.out.size)))
 have hz7:=HB7.out.size
 clear HC HBB hl hk HL6 HB6 hz6
 go_wp2_with fail
 have hc:=log_text _ _ _ HL7.out.1 HL7.out.2.1.proof (HT.out.below HB7.out HT.out.lt) (by rw[awake_text];decide)
 rw[awake_text]at hc
 have HC:=Lib.hid hc
 clear hc
 refine HC.out.mono ?_
 rintro e w8 ⟨rfl,hb⟩
 have HL8:=Lib.hid (HL7.out.below hb)
 have HB8:=Lib.hid (HB7.out.trans (hb.mono hz7))
 have hz8:=HB8.out.size
 clear HC hb HL7 HB7 hz7
 go_wp2_with fail
 have hb:=below_alloc w8 (.cells #[.int .i64 4] 3)
 have i1:=(ints_new w8 [4] 3).mono (O':=fun g=>w8.heap.size≤g∨g<w.heap.size∨False) (fun _ h=>.inl h)
 have hc:=forget_in w.heap.size (w.heap.size+1) _ _ [4] w8 _ HL8.out hb (fun _ h=>h.elim) i1 (by decide) (by decide)
 rw[aw_n8,aw_e8,aw_l8]at hc
 have HC:=Lib.hid hc
 have HBB:=Lib.hid hb
 clear hc i1 hb
 refine HC.out.mono ?_
 rintro e w9 ⟨rfl,hl,hk⟩
 have HL9:=Lib.hid hl
 have HB9:=Lib.hid ((HB8.out.trans (HBB.out.mono hz8)).trans (hk.toBelow (Nat.le_trans hz8 HBB.out.size)))
 have hz9:=HB9.out.size
 clear HC HBB hl hk HL8 HB8 hz8
 go_wp2_with fail
 refine(log_done _ _ _ HL9.out.1).mono ?_
 rintro e w' ⟨rfl,rfl⟩
 go_wp2_with fail
 refine(log_steps _ _ _ HL9.out.1 HL9.out.2.1.ok).mono ?_
 rintro e w10 ⟨v,ms,rfl,hst,_,hb⟩
 obtain⟨As,cs,rfl,_⟩:=own_slice hst.row
 have hms:ms.length=3:=by
  have:=congrArg List.length hst.steps
  simpa using this
 have HB10:=Lib.hid (HB9.out.trans (hb.mono hz9))
 clear hst hb
 rw[hms]
 go_wp2_with fail
 go_ret
 exact⟨rfl,HB10.out⟩
end Go.Proofs.YteigjcichmpejaaDoor
namespace Go.Proofs.YteigjcichmpejaaDoor
open Go.RowKit Go.Maps
def SetM (w:World) (b n:Nat) (S:Int→Bool) (z:Nat):Prop:=
 ∃D:DataW Unit,w.ownsMap Tryd.prog 3 (plainElem Tryd.prog 3) b n D∧Tidy D∧size D=z∧∀x:Int,(Lit.int .i64 x).wf=true→D.atKey (.int .i64 x) (.lit (.int .i64 0))= .lit (.int .i64 (if S x then 1 else 0))∧has D (.int .i64 x)=S x
theorem SetM.lt {w:World} {b n:Nat} {S:Int→Bool} {z:Nat} (h:SetM w b n S z):b<w.heap.size:=by
 obtain⟨D,⟨es,cl,hb,_⟩,_⟩:=h
 exact heap_lt hb
theorem SetM.map {w:World} {b n:Nat} {S:Int→Bool} {z:Nat} (h:SetM w b n S z):MapAt w b n (fun x=>if S x then 1 else 0):=by
 obtain⟨D,ho,ht,_,hx⟩:=h
 exact⟨D,ho,ht.isMap,fun x hw=>(hx x hw).1⟩
theorem SetM.kept {O:Nat→Prop} {w w':World} {b n:Nat} {S:Int→Bool} {z:Nat} (h:SetM w b n S z) (k:Kept O w w') (hO: ¬O b):SetM w' b n S z:=by
 obtain⟨D,⟨es,cl,hb,rest⟩,h2⟩:=h
 exact⟨D,⟨es,cl,(k.block b (heap_lt hb) hO).trans hb,rest⟩,h2⟩
theorem SetM.below {w w':World} {b n:Nat} {S:Int→Bool} {z:Nat} (h:SetM w b n S z) (k:Below w.heap.size w w'):SetM w' b n S z:=h.kept (O:=fun _=>False) (Kept.of_below k) (fun h=>h)
theorem SetM.made (w:World):SetM (w.alloc (.map #[] 0)) w.heap.size 0 (fun _=>false) 0:=
 ⟨.map [],World.ownsMap_made _ _ _ _,tidy_empty,rfl,fun _ _=>⟨rfl,rfl⟩⟩
theorem SetM.mono {w:World} {b n n':Nat} {S:Int→Bool} {z:Nat} (h:SetM w b n S z) (hn:n≤n'):SetM w b n' S z:=by
 obtain⟨D,ho,h2⟩:=h
 exact⟨D,ho.mono hn,h2⟩
theorem SetM.congr {w:World} {b n:Nat} {S S':Int→Bool} {z z':Nat} (h:SetM w b n S z) (hS: ∀x,S' x=S x) (hz:z'=z):SetM w b n S' z':=by
 obtain rfl:S'=S:=funext hS
 subst hz
 exact h
end Go.Proofs.YteigjcichmpejaaDoor
