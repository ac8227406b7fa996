/- The line of a step (package lratext). -/
import Derived.Test.YteigjcichmpejaaDoorV107
import Derived.Lib.ItoaLen
import Derived.Lib.AppendIntMem
namespace Go.Proofs.YteigjcichmpejaaDoor
open Go.RowKit
def TabW (w:World):Prop:=Lib.TabIs Tryd.prog w "internal/strconv.uint64pow10" .u64 Lib.pow10Tab
theorem tab_named:Tryd.prog.globalNamed "internal/strconv.uint64pow10" =some 5:=by kernel_rfl
theorem TabW.lt {w:World} (h:TabW w):5<w.heap.size:=by
 unfold TabW Lib.TabIs World.var? at h
 rw[tab_named]at h
 simp only[Option.bind_some]at h
 apply Classical.byContradiction
 intro hn
 rw[Array.getElem?_eq_none (by omega)]at h
 cases h
theorem TabW.of_block {w w':World} (h:TabW w) (hb:w'.heap[(5:Nat)]? =w.heap[(5:Nat)]?):TabW w':=by
 unfold TabW Lib.TabIs World.var? at *
 rw[tab_named]at *
 simp only[Option.bind_some]at *
 rw[hb]
 exact h
theorem TabW.below {B:Nat} {w w':World} (h:TabW w) (hb:Below B w w') (hB:5<B):TabW w':=h.of_block (hb.block _ hB)
theorem TabW.next {w w':World} (h:TabW w) (hb:Below w.heap.size w w'):TabW w':=h.below hb h.lt
def Rng (x:Int):Prop:= -9223372036854775808≤x∧x≤9223372036854775807
theorem itoa_any (n:Int) (w:World) (hn:Rng n) (ht:TabW w):
  Calls Tryd.prog 55 #[.int .i64 n] w fun e w'=>e= .returned (.string ⟨(Lib.itoa n).toArray⟩)∧Below w.heap.size w w':=
 (Tryd.strconv_Itoa n hn.1 hn.2 w ht).mono fun _ _ ⟨h,k,os,hw⟩=>⟨h,by rw[hw];exact Lib.below_grow _ _ (Nat.le_refl _) _ _⟩
def numT (n:Int):List UInt8:=32::Lib.itoa n
theorem numT_len (n:Int) (hn:Rng n):(numT n).length≤22:=by
 have:=Lib.itoa_length_le n hn.1 hn.2
 simp only[numT,List.length_cons]
 omega
def numsT (l:List Int):List UInt8:=l.flatMap numT
theorem numsT_len (l:List Int) (h: ∀x∈l,Rng x):(numsT l).length≤l.length*22:=by
 induction l with
 | nil=>simp[numsT]
 | cons x l ih=>
  have h1:=ih (fun y hy=>h y (List.mem_cons_of_mem _ hy))
  have h2:=numT_len x (h x List.mem_cons_self)
  simp only[numsT,List.flatMap_cons,List.length_append,List.length_cons]at *
  omega
theorem numsT_take (l:List Int) (k:Nat) (x:Int) (h:l[k]? =some x):numsT (l.take (k+1))=numsT (l.take k)++numT x:=by
 rw[numsT,numsT,List.take_add_one,h,List.flatMap_append]
 simp
def stepT (s:EStep):List UInt8:=Lib.itoa s.id++(if s.del then [32,100]else numsT s.lits++numT 0)++numsT s.hints++numT 0
theorem IsB.kept {B b:Nat} {l:List UInt8} {w w':World} (h:IsB B b l w) (hb:Below w.heap.size w w'):IsB B b l w':=by
 have key: ∀p,Lib.BuilderAtF 85 5 B b p (Lib.byteCells l) w→Lib.BuilderAtF 85 5 B b p (Lib.byteCells l) w':=fun p ⟨h1,v,h2,h3,h4⟩=>
  ⟨h1,v,(hb.block b (heap_lt h2)).trans h2,h3.kept (row:=none) ⟨hb.os,hb.tape,hb.output,hb.size,fun k hk _=>hb.block k hk⟩ (by cases hv:v.ownBlock <;> simp),h4⟩
 exact h.imp (key _) (key _)
theorem ba_size (a b:List UInt8):((⟨a.toArray⟩:ByteArray)++⟨b.toArray⟩).size=a.length+b.length:=by
 rw[ByteArray.size_append]
 rfl
set_option maxHeartbeats 400000 in
theorem line_add (n:Int) (B b:Nat) (l:List UInt8) (w:World) (h:IsB B b l w) (hl:l.length≤100000000) (hBw:B≤w.heap.size) (hn:Rng n) (ht:TabW w):
  Calls Tryd.prog 54 #[.int .i64 n,.pointer (some ⟨b,0,none⟩)] w fun e w'=>(∃v,e= .returned v)∧IsB B b (l++numT n) w'∧Below B w w':=by
 have hil:=Lib.itoa_length_le n hn.1 hn.2
 have H:=Lib.hid h
 have HT:=Lib.hid ht
 have HN:=Lib.hid hn
 clear h ht hn
 go_enter Tryd.func54,Tryd.ntmps54
 go_wp2_with fail
 refine(itoa_any n _ HN.out HT.out).mono ?_
 rintro e w1 ⟨rfl,hb1⟩
 have HB1:=Lib.hid hb1
 have hz1:=hb1.size
 clear hb1
 go_wp2_with fail
 refine(bw_write B b l _ _ (H.out.kept HB1.out) (by rw[ba_size [32]];simp only[List.length_cons,List.length_nil];omega) (by omega)).mono ?_
 rintro e w2 ⟨rfl,h2,hb2⟩
 have H2:=Lib.hid h2
 have HB2:=Lib.hid hb2
 clear h2 hb2
 go_wp2_with fail
 go_end0
 refine⟨⟨_,rfl⟩,?_,(HB1.out.mono hBw).trans HB2.out⟩
 have:=H2.out
 simpa [numT] using this
end Go.Proofs.YteigjcichmpejaaDoor
