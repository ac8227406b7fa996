/- lratext.numbers$1 at any words: yields their numbers up to the first word that is no numeral. strings.Split at a separator of one byte. What a card's row shares, where texts are read: the wrap that hands the listed variables on, the world's shape, the table, the errors, the variable of strings.Index. -/
import Derived.Test.YteigjcichmpejaaDoorV101
import Derived.Test.YteigjcichmpejaaDoorV113
import Derived.Test.YteigjcichmpejaaDoorV114
import Derived.Lib.SmallJoins
import Derived.Lib.AppendIntMem
import Derived.Test.YteigjcichmpejaaDoorV110
import Derived.Test.YteigjcichmpejaaDoorTie
import Derived.Test.YteigjcichmpejaaDoorCards
import Derived.Test.YteigjcichmpejaaDoorV100
import Derived.HandedShaped
import Derived.Shelf.Vars
import Derived.Stop.LaidErr
import Derived.LaidLaws
import Derived.Lib.LaidTab
import Derived.SevenTiedAt
namespace Go.Proofs.YteigjcichmpejaaDoor
open Go.RowKit Go.Shelf
attribute [local go_sem] Oper.semAt_some
theorem grown_below {W W':World} (h:Below W.heap.size W W'):W.grownBy W' none:=
 ⟨h.os,h.tape,h.output,h.size,fun k hk _=>h.block k hk⟩
def WordsAt (O:Nat→Prop) (w:World) (u:Value) (ws:List (List UInt8)):Prop:=
 ∃A c,u= .slice A ws.length c∧∀(i:Nat) (x:List UInt8),ws[i]? =some x→∃g o,A=some ⟨g,o,none⟩∧g<w.heap.size∧O g∧w.cell? ⟨g,o+i,none⟩=some (.string ⟨x.toArray⟩)
theorem WordsAt.below {O:Nat→Prop} {w w':World} {u:Value} {ws:List (List UInt8)} (h:WordsAt O w u ws) (hb:Below w.heap.size w w'):WordsAt O w' u ws:=by
 obtain⟨A,c,h1,h2⟩:=h
 refine⟨A,c,h1,fun i x hx=>?_⟩
 obtain⟨g,o,h3,h4,h5,h6⟩:=h2 i x hx
 exact⟨g,o,h3,Nat.lt_of_lt_of_le h4 hb.size,h5,(hb.cell (p:=⟨g,o+i,none⟩) h4).trans h6⟩
theorem WordsAt.kept {O O':Nat→Prop} {w w':World} {u:Value} {ws:List (List UInt8)} (h:WordsAt O w u ws) (k:Kept O' w w') (hO: ∀g,O g→¬O' g):WordsAt O w' u ws:=by
 obtain⟨A,c,h1,h2⟩:=h
 refine⟨A,c,h1,fun i x hx=>?_⟩
 obtain⟨g,o,h3,h4,h5,h6⟩:=h2 i x hx
 exact⟨g,o,h3,Nat.lt_of_lt_of_le h4 k.size,h5,(k.cell (p:=⟨g,o+i,none⟩) h4 (hO g h5)).trans h6⟩
def ErrC (w:World):Prop:=(∃e,w.cell? ⟨3,0,none⟩=some e∧(e= .nilIface∨∃te pe,e= .iface te pe))∧∃e,w.cell? ⟨4,0,none⟩=some e∧(e= .nilIface∨∃te pe,e= .iface te pe)
theorem ErrC.below {w w':World} (h:ErrC w) (hb:Below w.heap.size w w'):ErrC w':=by
 obtain⟨⟨e,h1,h2⟩,f,h3,h4⟩:=h
 exact⟨⟨e,(hb.cell (p:=⟨3,0,none⟩) (World.block_lt_of_cell? w _ h1)).trans h1,h2⟩,f,(hb.cell (p:=⟨4,0,none⟩) (World.block_lt_of_cell? w _ h3)).trans h3,h4⟩
theorem atoi_no (wd:List UInt8) (w:World) (hl:wd.length≤100000000) (he:ErrC w) (h:Lib.atoiAll wd= .syntax∨Lib.atoiAll wd= .range):
  Calls Tryd.prog 61 #[.string ⟨wd.toArray⟩] w fun e w'=> ∃n t p,e= .returned (.tuple #[.int .i64 n,.iface t p])∧Below w.heap.size w w':=by
 obtain⟨⟨e1,h1,h2⟩,e2,h3,h4⟩:=he
 rcases h with h|h
 ·refine(Tryd.strconv_Atoi_syntax ⟨wd.toArray⟩ (by show wd.length≤_;omega) h e1 w h1 h2).mono ?_
  rintro e w' ⟨N,rfl,_,_,hb⟩
  exact⟨_,_,_,rfl,hb⟩
 ·refine(Tryd.strconv_Atoi_range ⟨wd.toArray⟩ (by show wd.length≤_;omega) h e2 w h3 h4).mono ?_
  rintro e w' ⟨N,rfl,_,_,hb⟩
  exact⟨_,_,_,rfl,hb⟩
theorem atoi_yes (wd:List UInt8) (v:Int) (w:World) (hl:wd.length≤100000000) (h:Lib.atoiAll wd= .ok v):
  Calls Tryd.prog 61 #[.string ⟨wd.toArray⟩] w fun e w'=>e= .returned (.tuple #[.int .i64 v,.nilIface])∧Below w.heap.size w w':=by
 refine(Tryd.strconv_Atoi_ok ⟨wd.toArray⟩ (by show wd.length≤_;omega) v h w).mono ?_
 rintro e w' ⟨rfl,h⟩
 refine⟨rfl,?_⟩
 rcases h with rfl|⟨t,rfl⟩
 ·exact Below.refl _ _
 ·exact Lib.bytesWorld_below _ _ _
set_option maxRecDepth 100000 in
set_option maxHeartbeats 2000000 in
theorem numbersW_in {O X:Nat→Prop} (l Bb:Nat) (u:Value) (ws:List (List UInt8)) (J Jx:List Int→World→Prop) (W:World) (hJ:AbidesFrom W.heap.size J)
  (hY: ∀pre x W1,J pre W1→pre.length<(numsW ws).length→YieldAt Fence.wide 7 Tryd.prog l #[.int .i64 x] W1 fun e W'=>
   (e= .returned (.bool true)∧J (pre++ [x]) W'∧KpC X W1 W')∨(e= .returned (.bool false)∧Jx (pre++ [x]) W'))
  (hB:W.cell? ⟨Bb,0,none⟩=some u) (hX: ¬X Bb) (hu:WordsAt O W u ws) (hOX: ∀g,O g→¬X g) (hlen:ws.length≤140737488355328)
  (hs: ∀x∈ws,x.length≤100000000)
  (hT: ∀W',KpC X W W'→Lib.TabIs Tryd.prog W' "internal/strconv.uint64pow10" .u64 Lib.pow10Tab∧ErrC W') (h0:J [] W):
  CallsIn Fence.wide 8 Tryd.prog 60 #[.func (.yield l) #[] #[],.pointer (some ⟨Bb,0,none⟩)] W fun e W'=>(∃v,e= .returned v)∧
   ((∃ys,ys=numsW ws∧J ys W')∨(∃pre,(pre <+: numsW ws∧pre≠ [])∧Jx pre W')):=by
 have hB':=World.block_lt_of_cell? W _ hB
 obtain⟨xs,hxs0⟩: ∃xs,numsW ws=xs:=⟨_,rfl⟩
 have HXE:=Lib.hid hxs0
 have HLE:=Lib.hid (show xs.length≤ws.length from hxs0▸numsW_le ws)
 rw[hxs0]at hY⊢
 have HB:=Lib.hid hB
 have HY:=Lib.hid hY
 have HX:=Lib.hid hX
 have HOX:=Lib.hid hOX
 have H0:=Lib.hid h0
 have HS:=Lib.hid hs
 have HT:=Lib.hid hT
 have HJA:=Lib.hid hJ
 obtain⟨A,c,rfl,hxs⟩:=hu
 have HXS:=Lib.hid hxs
 clear hY hX hOX h0 hs hT hJ hxs hxs0
 refine callsIn_of_wp Tryd.func60 rfl trivial ?_ rfl
 simp only[Tryd.ntmps60,List.size_toArray,List.length_cons,List.length_nil,Nat.reduceAdd,Nat.reduceSub,Array.replicate_succ,Array.replicate_zero,List.push_toArray,List.append_toArray,List.nil_append,List.cons_append]
 gi_wp2
 gi_loopw [9] (fun i wr=> ∃k:Nat,k≤ws.length∧i= .int .i64 k∧Hid (k≤xs.length)∧Hid (KpC X W wr)∧Hid (J (xs.take k) wr)) (fun i _=>ws.length-(intOf i).toNat)
 case atStart=>exact⟨0,Nat.zero_le _,rfl,Lib.hid (Nat.zero_le _),Lib.hid (KpC.refl _ _),H0⟩
 case round=>
  obtain⟨k,hk,rfl,HKX,HK,HJ⟩:=hrel
  by_cases hlt:k<ws.length
  ·obtain⟨wd,hwk⟩:=getElem_of hlt
   obtain⟨g,o,rfl,hg,hgo,d0⟩:=HXS.out k wd hwk
   have hxo:=xo_cell d0
   have d1:wr.cell? ⟨g,o+k,none⟩=some (.string ⟨wd.toArray⟩):=(HK.out.kept.cell (p:=⟨g,o+k,none⟩) hg (fun h=>h.elim (HOX.out g hgo) hxo)).trans d0
   have hwl:=HS.out wd (List.mem_of_getElem? hwk)
   have HTE:=Lib.hid (HT.out wr HK.out)
   have hways:=atoi_word wd
   have HWK:=Lib.hid hwk
   clear hwk hxo d0 hgo
   rcases hways with⟨x,hnw,hat,rfl,hx0,hx1⟩|⟨hnw,hway⟩
   ·have hxk:xs[k]? =some x:=by
     rcases Nat.lt_or_ge k xs.length with h|h
     ·obtain⟨y,hy⟩:=getElem_of h
      obtain⟨w2,h2,h3⟩:=numsW_take ws k y (by rw[HXE.out];exact hy)
      have e:=HWK.out.symm.trans h2
      obtain rfl:=Option.some.inj e
      rw[hnw]at h3
      rw[hy,h3]
     ·have hke:k=xs.length:=Nat.le_antisymm HKX.out h
      have:=numsW_end ws (Lib.itoa x) (by rw[HXE.out,←hke];exact HWK.out)
      rw[hnw]at this
      cases this
    have hkx:=(List.getElem?_eq_some_iff.1 hxk).1
    have HKL:=Lib.hid hkx
    have HTK:=Lib.hid (show xs.take (k+1)=xs.take k++ [x]from by rw[List.take_add_one,hxk];rfl)
    have HAT:=Lib.hid (atoi_yes (Lib.itoa x) x wr hwl hat)
    have HR01:=Lib.hid (show(-9223372036854775808:Int)≤x∧x≤9223372036854775807 from⟨hx0,hx1⟩)
    clear hxk hat hx0 hx1 hkx hnw hwl
    gi_wp2_with fail
    refine⟨trivial,?_⟩
    refine(callsIn_wide.2 HAT.out).mono ?_
    rintro e w1 ⟨rfl,hb1⟩
    have HK1:=Lib.hid (HK.out.trans (KpC.of_below hb1))
    have HB1:=Lib.hid hb1
    have HIT:=Lib.hid (Tryd.strconv_Itoa x HR01.out.1 HR01.out.2 w1 (HT.out w1 HK1.out).1)
    clear hb1
    gi_wp2_with fail
    refine⟨trivial,?_⟩
    refine(callsIn_wide.2 HIT.out).mono ?_
    rintro e w2 ⟨rfl,q,os,hw2⟩
    have hb2:Below w1.heap.size w1 w2:=by rw[hw2];exact Lib.below_grow _ _ (Nat.le_refl _) _ _
    have HB2:=Lib.hid (HB1.out.trans (hb2.mono HB1.out.size))
    have HK2:=Lib.hid (HK.out.trans (KpC.of_below HB2.out))
    have hJ2:J (xs.take k) w2:=HJA.out _ _ _ none HJ.out (grown_below HB2.out) (fun r e=>by cases e)
    obtain⟨fn,tmps,assign,body,hy,hR⟩:=HY.out (xs.take k) x w2 hJ2 (by rw[List.length_take];have:=HKL.out;omega)
    have HR:=Lib.hid hR
    clear hw2 hb2 hJ2 hR d1
    gi_wp2_with fail
    refine HR.out.mono ?_
    rintro e W3 (⟨rfl,hJ3,hk3⟩|⟨rfl,hJx3⟩)
    ·have HJ3:=Lib.hid hJ3
     have HK3:=Lib.hid (HK2.out.trans hk3)
     clear hJ3 hk3 hy
     gi_wp2_with fail
     go_roundw
     case rel=>exact⟨k+1,by omega,by go_num,Lib.hid HKL.out,HK3,Lib.hid (by rw[HTK.out];exact HJ3.out)⟩
     case measure=>simp[intOf];omega
    ·gi_wp2
     refine bodyPost_ret (results_none rfl _ _ _) rfl ?_
     exact⟨⟨_,rfl⟩,.inr ⟨xs.take k++ [x],⟨by rw[←HTK.out];exact List.take_prefix _ _,by simp⟩,hJx3⟩⟩
   ·have hke:k=xs.length:=Nat.le_antisymm HKX.out (Nat.le_of_not_lt fun h=>by
     obtain⟨y,hy⟩:=getElem_of h
     obtain⟨w2,h2,h3⟩:=numsW_take ws k y (by rw[HXE.out];exact hy)
     have e:=HWK.out.symm.trans h2
     obtain rfl:=Option.some.inj e
     rw[hnw]at h3
     cases h3)
    have HJX:Hid (J xs wr):=Lib.hid (by
     have h:=HJ.out
     rw[hke,List.take_length]at h
     exact h)
    clear hke hnw
    rcases hway with⟨v,hat,hne,hv0,hv1⟩|hat
    ·have HAT:=Lib.hid (atoi_yes wd v wr hwl hat)
     have HR01:=Lib.hid (show(-9223372036854775808:Int)≤v∧v≤9223372036854775807 from⟨hv0,hv1⟩)
     have hbn:(Lib.itoa v==wd)=false:=beq_eq_false_iff_ne.2 hne
     have hbm:(Lib.itoa v != wd)=true:=bne_iff_ne.2 hne
     clear hat hv0 hv1 hwl
     gi_wp2_with fail
     refine⟨trivial,?_⟩
     refine(callsIn_wide.2 HAT.out).mono ?_
     rintro e w1 ⟨rfl,hb1⟩
     have HK1:=Lib.hid (HK.out.trans (KpC.of_below hb1))
     have HB1:=Lib.hid hb1
     have HIT:=Lib.hid (Tryd.strconv_Itoa v HR01.out.1 HR01.out.2 w1 (HT.out w1 HK1.out).1)
     clear hb1
     gi_wp2_with fail
     refine⟨trivial,?_⟩
     refine(callsIn_wide.2 HIT.out).mono ?_
     rintro e w2 ⟨rfl,q,os,hw2⟩
     have hb2:Below w1.heap.size w1 w2:=by rw[hw2];exact Lib.below_grow _ _ (Nat.le_refl _) _ _
     have HB2:=Lib.hid (HB1.out.trans (hb2.mono HB1.out.size))
     have hJ2:J xs w2:=HJA.out _ _ _ none HJX.out (grown_below HB2.out) (fun r e=>by cases e)
     clear hw2 hb2 d1
     gi_wp2_with fail
     refine⟨fun _ h=>(by cases h),?_⟩
     gi_wp2
     refine bodyPost_ret (results_none rfl _ _ _) rfl ?_
     exact⟨⟨_,rfl⟩,.inl ⟨xs,rfl,hJ2⟩⟩
    ·have HAT:=Lib.hid (atoi_no wd wr hwl HTE.out.2 hat)
     clear hat hwl
     gi_wp2_with fail
     refine⟨trivial,?_⟩
     refine(callsIn_wide.2 HAT.out).mono ?_
     rintro e w1 ⟨n,t,p,rfl,hb1⟩
     have hJ2:J xs w1:=HJA.out _ _ _ none HJX.out (grown_below hb1) (fun r e=>by cases e)
     clear hb1 d1
     gi_wp2_with fail
     refine⟨trivial,?_⟩
     gi_wp2_with fail
     refine⟨fun _ h=>(by cases h),?_⟩
     gi_wp2
     refine bodyPost_ret (results_none rfl _ _ _) rfl ?_
     exact⟨⟨_,rfl⟩,.inl ⟨xs,rfl,hJ2⟩⟩
  ·obtain rfl:k=ws.length:=by omega
   have HJX:Hid (J xs wr):=Lib.hid (by
    have h:=HJ.out
    rw[List.take_of_length_le (Nat.le_trans HLE.out (Nat.le_refl _))]at h
    exact h)
   gi_wp2
   go_end0
   exact⟨⟨_,rfl⟩,.inl ⟨xs,rfl,HJX.out⟩⟩
theorem numbersW_stops {O X:Nat→Prop} (Bb:Nat) (u:Value) (ws:List (List UInt8)) (w:World) (hB:w.cell? ⟨Bb,0,none⟩=some u) (hX: ¬X Bb) (hu:WordsAt O w u ws) (hOX: ∀g,O g→¬X g) (hlen:ws.length≤140737488355328)
  (hs: ∀x∈ws,x.length≤100000000)
  (hT: ∀W W',Below w.heap.size w W→KpC X W W'→Lib.TabIs Tryd.prog W' "internal/strconv.uint64pow10" .u64 Lib.pow10Tab∧ErrC W'):
  SeqStopsK Fence.wide 8 Tryd.prog 60 #[.pointer (some ⟨Bb,0,none⟩)] (fun x:Int=> #[Value.int .i64 x]) (KpC X) (fun ys=>ys=numsW ws) (fun pre=>pre <+: numsW ws∧pre≠ []) (numsW ws).length w:=fun l J Jx W hW hJ _ hY h0=>
 numbersW_in l Bb u ws J Jx W hJ hY ((hW.cell (p:=⟨Bb,0,none⟩) (World.block_lt_of_cell? w _ hB)).trans hB) hX (hu.below hW) hOX hlen hs (fun W' h=>hT W W' hW h) h0
end Go.Proofs.YteigjcichmpejaaDoor
namespace Go.Proofs.YteigjcichmpejaaDoor
open Go.RowKit
def MaxC (w:World):Prop:= ∃m:Int,w.cell? ⟨0,0,none⟩=some (.int .i64 m)
theorem MaxC.below {w w':World} (h:MaxC w) (hb:Below w.heap.size w w'):MaxC w':=by
 obtain⟨m,hm⟩:=h
 exact⟨m,(hb.cell (p:=⟨0,0,none⟩) (World.block_lt_of_cell? w _ hm)).trans hm⟩
theorem splitB_spl (t:List UInt8) (c:UInt8):Lib.splitB ⟨#[c]⟩ 0 (Lib.countB ⟨t.toArray⟩ ⟨#[c]⟩) ⟨t.toArray⟩=(spl c t).map fun x=>(⟨x.toArray⟩:ByteArray):=by
 have h:=Lib.splitB_data ⟨#[c]⟩ 0 (Lib.countB ⟨t.toArray⟩ ⟨#[c]⟩) ⟨t.toArray⟩
 have h2:Lib.splitK [c] 0 (Lib.countB ⟨t.toArray⟩ ⟨#[c]⟩) t=spl c t:=split_spl c t
 have h3:(Lib.splitB ⟨#[c]⟩ 0 (Lib.countB ⟨t.toArray⟩ ⟨#[c]⟩) ⟨t.toArray⟩).map (·.data.toList)=spl c t:=h.trans h2
 rw[←h3,List.map_map]
 symm
 exact(List.map_congr_left fun x _=>rfl).trans (List.map_id _)
theorem split_any (t:List UInt8) (c:UInt8) (w:World) (hs:t.length<4294967281) (hm:MaxC w):
  Calls Tryd.prog 29 #[.string ⟨t.toArray⟩,.string ⟨#[c]⟩] w fun e w'=>e= .returned (.slice (some ⟨w.heap.size,0,none⟩) (spl c t).length (spl c t).length)∧
   w'.heap[w.heap.size]? =some (.cells ((spl c t).map fun x=>Value.string ⟨x.toArray⟩).toArray 9 (0,0))∧Below w.heap.size w w':=by
 obtain⟨m,hm⟩:=hm
 have hl:Lib.countB ⟨t.toArray⟩ ⟨#[c]⟩+1=(spl c t).length:=by
  have h:=Lib.splitB_all ⟨#[c]⟩ (Nat.le_refl _) 0 _ ⟨t.toArray⟩ rfl
  rw[splitB_spl,List.length_map]at h
  exact h.symm
 refine(Tryd.strings_Split ⟨t.toArray⟩ ⟨#[c]⟩ m w hs hm (Nat.le_refl _)).mono ?_
 rintro e w' ⟨rfl,rfl⟩
 refine⟨by rw[hl],?_,(Below.refl _ _).alloc (Nat.le_refl _) _⟩
 rw[World.alloc_heap_new,splitB_spl,List.map_map]
 rfl
end Go.Proofs.YteigjcichmpejaaDoor
namespace Go.Proofs.YteigjcichmpejaaDoor
open Go.ChangeShapes Go.WideShapes Go.ChangeAt Go.RowKit
set_option maxRecDepth 100000
def laidL:List (String×DataW Unit):= [("math/bits.deBruijn32tab",Rows.laid_math_bits_deBruijn32tab),("math/bits.deBruijn64tab",Rows.laid_math_bits_deBruijn64tab),("internal/strconv.uint64pow10",Rows.laid_internal_strconv_uint64pow10),("unicode/utf8.acceptRanges",Rows.laid_unicode_utf8_acceptRanges),("strconv.ErrRange",Rows.laid_strconv_ErrRange),("strconv.ErrSyntax",Rows.laid_strconv_ErrSyntax),("unicode/utf8.first",Rows.laid_unicode_utf8_first)]
theorem handed_both {H:Type} {enc:TypeId×Value→H} {a:Assume} {C:Checked} {os:Os} {f:FuncId} {fn:Func} {s:ChangeSpec} {conds:List PathCond} {apart fresh handsOn again:Bool} {X:World→Array Value→Prop}
  (own:ownKnob C.prog.godebug=none) (started:os.Started) (noInit:C.prog.inits.idxOf? f=none) (hfn:C.prog.funcs[f]? =some fn)
  (witness: ∃(w:World) (tape:Tape) (i:Input),w.os=os∧(w.forCall tape i).Shaped C.prog∧i.vars= []∧Input.okWide C.prog (w.forCall tape i) .any w.heap.size f i∧
   ((s.pre enc C.prog fn conds apart (w.forCall tape i).memory i.args∧X (w.forCall tape i).memory i.args)∧sizedMet enc C.prog fn (OpenSpec.ofChange s) apart (w.forCall tape i).memory i.args)∧a.holds C.prog (lone (Frame.enter C.prog f i.args .normal) [] (w.forCall tape i)))
  (contract: ∀(W:World) (base:Nat) (args:Array Value) (ds gs:List (DataW H)) (before:List MemPlace),
   (∀(j:Nat) t v,fn.params[j]? =some t→args[j]? =some v→Value.okWide C.prog W .any base t v)→
   DataW.Whole enc C.prog fn.params.toList s.vars apart W args.toList ds gs before→
   (DataW.weightsEach C.prog (fn.params.toList++s.plain.varTypes C.prog) (ds++gs)).all (· ≤reachBytes)=true→
   W.ShapedOpen C.prog→(∃W0:World,W0.heap=W.heap∧X W0 args)→
   Calls C.prog f args W fun e W'=> ∃v,e= .returned v∧s.post enc C.prog fn apart fresh handsOn again W args v W'):
  ReturnsInHanded a C os f .any (fun w args=>(s.pre enc C.prog fn conds apart w args∧X w args)∧sizedMet enc C.prog fn (OpenSpec.ofChange s) apart w args) (s.post enc C.prog fn apart fresh handsOn again):=by
 refine returnsInHanded_of_calls own started noInit witness ?_
 intro w tape i _ hsh _ hok hpre _
 obtain⟨_,_,_,fn',hfn',_,_,_,_,hval⟩:=hok
 have e:fn'=fn:=Option.some.inj (hfn'.symm.trans hfn)
 subst e
 obtain⟨⟨⟨ds,gs,before,hw,_⟩,hx⟩,hz⟩:=hpre
 have hw':=DataW.Whole.of_heap (w':=w.forCall tape i) (by rfl) hw
 refine(contract (w.forCall tape i) w.heap.size i.args ds gs before hval hw' (hz.weights hw) hsh ⟨_,by rfl,hx⟩).mono fun e W' ⟨v,he,hp⟩=>?_
 subst he
 exact ChangeSpec.post_blind hp
theorem shaped0 (os:Os) (args:Array Value):((World.laidAll Tryd.prog os laidL).forCall (fun _ _=>0) ⟨#[],args,[]⟩).Shaped Tryd.prog:=World.shaped_of_ZipB (by kernel_rfl) (by kernel_rfl)
theorem laid0 (os:Os) (args:Array Value):laidMetH Tryd.prog laidL ((World.laidAll Tryd.prog os laidL).forCall (fun _ _=>0) ⟨#[],args,[]⟩).memory:=by
 rw[MakeChecks.laidMetH_plain _ _ _ (by kernel_rfl)]
 exact laidMet_laidAll _ (by kernel_rfl) (by kernel_rfl)
theorem tab_of_laid {W:World} (h: ∃W0:World,W0.heap=W.heap∧laidMetH Tryd.prog laidL W0):TabW W:=by
 obtain⟨W0,hh,h⟩:=h
 rw[MakeChecks.laidMetH_plain _ _ _ (by kernel_rfl)]at h
 obtain⟨ps,⟨_,_,_,_,_,_,_,_,_,_,⟨_,_,_,_,_,_,_,_,_,_,⟨g,t,cs,fuel,p,q,hg,hty,hvar,hd,_,_⟩,_⟩,_⟩,_⟩:=h
 obtain rfl:(5:Nat)=g:=Option.some.inj (tab_named.symm.trans hg)
 obtain rfl:(138:Nat)=t:=Option.some.inj ((show(Tryd.prog.globals[(5:Nat)]?).map (·.type)=some (138:Nat) by kernel_rfl).symm.trans hty)
 have e:=Lib.cells_of_tab (zs:=Lib.pow10Tab) (k:=.u64) Tryd.underlying138 Tryd.underlying119 (by kernel_rfl) (by kernel_rfl) hd
 refine TabW.of_block (w:=W0) ?_ (by rw[hh])
 unfold TabW Lib.TabIs
 rw[hvar,←e]
theorem row_err (u:TypeId) (h:Tryd.prog.typeName? 3 u=some "*errors.errorString"):u=142:=
 have hs: "*" ++ "errors.errorString" = "*errors.errorString" :=by decide
 typeName_ptr_named (nm:= "errors.errorString") (by rw[hs];kernel_rfl) (by kernel_rfl) (by decide) u (by rw[hs];exact h)
theorem err_of_laid {W:World} (h: ∃W0:World,W0.heap=W.heap∧laidMetH Tryd.prog laidL W0):ErrC W:=by
 obtain⟨W0,hh,h⟩:=h
 rw[MakeChecks.laidMetH_plain _ _ _ (by kernel_rfl)]at h
 have h5:=h.tail.tail.tail.tail
 obtain⟨a1,s1,v1,_⟩:=laid_sentinel (g:=4) (ti:=87) (tp:=142) (te:=144) (ts:=9) h5 (by kernel_rfl) (by kernel_rfl) Tryd.underlying87 row_err Tryd.underlying142 Tryd.underlying144 rfl rfl Tryd.underlying9 (by kernel_rfl) (by kernel_rfl)
 obtain⟨a2,s2,v2,_⟩:=laid_sentinel (g:=3) (ti:=87) (tp:=142) (te:=144) (ts:=9) h5.tail (by kernel_rfl) (by kernel_rfl) Tryd.underlying87 row_err Tryd.underlying142 Tryd.underlying144 rfl rfl Tryd.underlying9 (by kernel_rfl) (by kernel_rfl)
 have c1:=World.var?_cell (g:=4) (by kernel_rfl) v1 0
 have c2:=World.var?_cell (g:=3) (by kernel_rfl) v2 0
 have key: ∀(g:Nat),W.cell? ⟨g,0,none⟩=W0.cell? ⟨g,0,none⟩:=fun g=>by unfold World.cell?;rw[hh]
 exact⟨⟨_,(key _).trans c2,.inr ⟨_,_,rfl⟩⟩,_,(key _).trans c1,.inr ⟨_,_,rfl⟩⟩
theorem max_of_shape {W:World} (h:W.ShapedOpen Tryd.prog):MaxC W:=
 cell_of_shapedOpen_int (zero:= #[.int .i64 0]) (t:=3) h (of_decide_eq_true (by kernel_rfl)) (by kernel_rfl) rfl (by kernel_rfl) (by kernel_rfl) Tryd.underlying3
end Go.Proofs.YteigjcichmpejaaDoor
