/- Learn (package emit). -/
import Derived.Test.YteigjcichmpejaaDoorV102
import Derived.Test.YteigjcichmpejaaDoorV103
namespace Go.Proofs.YteigjcichmpejaaDoor
open Go.RowKit
def ELog.full (L:ELog):Bool:=decide (1073741824≤L.last)||decide (262144≤L.steps.length)
def learnErr (L:ELog) (c h:List Int):Nat:=
 if L.done then 171 else if clauseB c=false then 20 else if 65536<h.length then 5 else if(h.any fun x=> !L.has x)=true then 170 else if L.full=true then 4 else 0
def ELog.learn (L:ELog) (c h:List Int):ELog:=⟨L.last+1,L.count+1,L.gone,L.steps++ [⟨false,L.last+1,c,h⟩],c.isEmpty⟩
theorem own_slice {w:World} {base size n:Nat} {e:TypeId} {v:Value} {xs:List Value} (h:w.ownsRow base e size v n xs): ∃A c,v= .slice A n c∧n≤c:=by
 rcases h.2 with⟨rfl,rfl⟩|⟨g,cap,cur,rfl,_,_,hle,_⟩
 ·exact⟨none,0,rfl,Nat.le_refl _⟩
 ·exact⟨_,cap,rfl,hle⟩
theorem block_set {w:World} {b j:Nat} {cs:Array Value} {t:TypeId} {fz:Nat×Nat} (h:w.heap[b]? =some (.cells cs t fz)) (v:Value):(w.setCell ⟨b,j,none⟩ v).heap[b]? =some (.cells (cs.setIfInBounds j v) t fz):=by
 unfold World.setCell
 simp only[Array.getElem?_modify]
 rw[h]
 simp
theorem LogMem.push {O:Nat→Prop} {w w5:World} {b mb:Nat} {L L':ELog} {sv sv':Value} {ms:List MStep} {m':MStep} (h:LogMem O w b L mb sv ms)
  (hk:Kept (fun g=>g=b∨g=mb∨sv.ownBlock=some g) w w5)
  (hblk:w5.heap[b]? =some (.cells #[.int .i64 L'.last,.int .i64 L'.count,.map (some mb),sv',.bool L'.done] 55 (0,0)))
  (hmap:MapAt w5 mb L'.gone.length (goneF L'.gone)) (hrow:w5.ownsRow 0 49 4 sv' (ms.length+1) (ms.flatMap MStep.cells++m'.cells))
  (hrb:sv'.ownBlock=sv.ownBlock∨∃g,sv'.ownBlock=some g∧w.heap.size≤g) (hsteps:L'.steps=L.steps++ [m'.s]) (hm:m'.At (fun g=>w.heap.size≤g) w5):
  LogMem (fun g=>O g∨w.heap.size≤g∧g<w5.heap.size) w5 b L' mb sv' (ms++ [m']) where
 own:=fun g hg=>hg.elim (fun h'=>Nat.lt_of_lt_of_le (h.own g h') hk.size) (fun h'=>h'.2)
 inb:=.inl h.inb
 inm:=.inl h.inm
 block:=hblk
 map:=hmap
 row:=by
  rw[List.length_append,List.flatMap_append]
  simpa using hrow
 rowb:=fun g hg=>by
  rcases hrb with e|⟨g',e,hle⟩
  ·exact .inl (h.rowb g (by rw[←e];exact hg))
  ·rw[e]at hg
   obtain rfl:=Option.some.inj hg
   exact .inr ⟨hle,(own_lt hrow _ e).2⟩
 steps:=by rw[List.map_append,h.steps,hsteps];rfl
 each:=fun m hm'=>by
  rcases List.mem_append.1 hm' with h1|h1
  ·refine((h.each m h1).typed hk (fun g c t hc ho=>?_)).mono (fun g hg=>.inl hg)
   rcases ho with rfl|rfl|ho
   ·rw[h.block]at hc
    simp only[Option.some.injEq,Obj.cells.injEq]at hc
    rw[←hc.2.1]
    exact⟨by decide,by decide⟩
   ·obtain⟨D,⟨es,cl,hb,_⟩,_⟩:=h.map
    rw[hb]at hc
    cases hc
   ·obtain⟨c',hc'⟩:=own_type h.row g ho
    rw[hc']at hc
    simp only[Option.some.injEq,Obj.cells.injEq]at hc
    rw[←hc.2.1]
    exact⟨by decide,by decide⟩
  ·obtain rfl:m=m':=by simpa using h1
   exact⟨hm.lits,fun g hg=>.inr ⟨hm.litb g hg,(own_lt hm.lits g hg).2⟩,hm.hints,fun g hg=>.inr ⟨hm.block g hg,(own_lt hm.hints g hg).2⟩⟩
 apart:=by
  refine List.pairwise_append.2 ⟨h.apart,List.pairwise_singleton _ _,fun x hx y hy g hg hg'=>?_⟩
  obtain rfl:y=m':=by simpa using hy
  have h1:=h.own g ((h.each x hx).block g hg)
  have h2:=hm.block g hg'
  omega
set_option maxRecDepth 100000 in
set_option maxHeartbeats 2000000 in
theorem learn_bad {O Oc Oh:Nat→Prop} (b:Nat) (L:ELog) (cv hv:Value) (c h:List Int) (w:World) (hL:LogAt O w b L) (hc:IntsIn Oc w cv c) (hh:IntsIn Oh w hv h) (hcl:c.length≤140737488355328) (hhl:h.length≤140737488355328) (hw: ∀x∈h,(Lit.int .i64 x).wf=true)
  (hl:L.last≤1073741824) (he:learnErr L c h≠0):
  Calls Tryd.prog 9 #[.pointer (some ⟨b,0,none⟩),cv,hv] w fun e w'=>e= .returned (.tuple #[.int .i64 0,.int .i64 (learnErr L c h:Nat)])∧Below w.heap.size w w':=by
 have hB:Below w.heap.size w (w.alloc (.cells #[.pointer (some ⟨b,0,none⟩)] 25)):=(Below.refl _ _).alloc (Nat.le_refl _) _
 have hbx:(w.alloc (.cells #[.pointer (some ⟨b,0,none⟩)] 25)).cell? ⟨w.heap.size,0,none⟩=some (.pointer (some ⟨b,0,none⟩)):=cell_new _ _ _ _
 have HR:=fun w' k=>right_clause (O:=Oc) cv c w' (hc.below k) hcl
 have HH:=contains_has hv h w.heap.size b L _ (hh.below hB) hhl hw hbx (hL.below hB)
 obtain⟨A,cc,rfl,hcc,_⟩:=hc
 obtain⟨A',ch,rfl,hch,_⟩:=hh
 obtain⟨mb,sv,ms,hL⟩:=hL
 have hbl:=hL.own b hL.inb
 obtain⟨c0,c1,c2,c3,c4⟩:=hL.cells
 obtain⟨As,cs,rfl,hcs⟩:=own_slice hL.row
 have hms:ms.length=L.steps.length:=by rw[←hL.steps,List.length_map]
 have HMS:=Lib.hid hms
 have HB:=Lib.hid hB
 unfold learnErr at he⊢
 clear hL c1 c2 hms hbx hB
 by_cases h1:L.done=true
 ·rw[if_pos h1]
  rw[h1]at c4
  clear h1 he HR HH
  go_enter Tryd.func9,Tryd.ntmps9
  go_wp2
  go_ret2
  exact⟨rfl,HB.out⟩
 ·rw[if_neg h1]at he⊢
  rw[show L.done=false by simpa using h1]at c4
  clear h1
  by_cases h2:clauseB c=false
  ·rw[if_pos h2]
   rw[h2]at HR
   have HR:=Lib.hid HR
   clear h2 he HH
   go_enter Tryd.func9,Tryd.ntmps9
   go_wp2_with fail
   refine(HR.out _ HB.out).mono ?_
   rintro e w' ⟨rfl,rfl⟩
   go_wp2
   go_ret2
   exact⟨rfl,HB.out⟩
  ·rw[if_neg h2]at he⊢
   rw[show clauseB c=true by simpa using h2]at HR
   have HR:=Lib.hid HR
   clear h2
   by_cases h3:65536<h.length
   ·rw[if_pos h3]
    have h3':decide ((65536:Int)<(h.length:Int))=true:=by simp;omega
    clear he HH
    go_enter Tryd.func9,Tryd.ntmps9
    go_wp2_with fail
    refine(HR.out _ HB.out).mono ?_
    rintro e w' ⟨rfl,rfl⟩
    go_wp2
    go_ret2
    exact⟨rfl,HB.out⟩
   ·rw[if_neg h3]at he⊢
    have h3':decide ((65536:Int)<(h.length:Int))=false:=by simp;omega
    by_cases h4:(h.any fun x=> !L.has x)=true
    ·rw[if_pos h4]
     rw[h4]at HH
     have HH:=Lib.hid HH
     clear h4 he
     go_enter Tryd.func9,Tryd.ntmps9
     go_wp2_with fail
     refine(HR.out _ HB.out).mono ?_
     rintro e w' ⟨rfl,rfl⟩
     go_wp2_with fail
     refine HH.out.mono ?_
     rintro e w' ⟨rfl,rfl⟩
     go_wp2
     go_ret2
     exact⟨rfl,HB.out⟩
    ·rw[if_neg h4]at he⊢
     rw[show(h.any fun x=> !L.has x)=false by simpa using h4]at HH
     have HH:=Lib.hid HH
     clear h4
     by_cases h5:L.full=true
     ·rw[if_pos h5]
      clear he
      by_cases h6:1073741824≤L.last
      ·have h6':decide ((1073741824:Int)≤(L.last:Int))=true:=by simp;omega
       have H5:=Lib.hid h5
       clear h5 h6
       go_enter Tryd.func9,Tryd.ntmps9
       go_wp2_with fail
       refine(HR.out _ HB.out).mono ?_
       rintro e w' ⟨rfl,rfl⟩
       go_wp2_with fail
       refine HH.out.mono ?_
       rintro e w' ⟨rfl,rfl⟩
       go_wp2
       go_ret2
       exact⟨rfl,HB.out⟩
      ·have h6':decide ((1073741824:Int)≤(L.last:Int))=false:=by simp;omega
       have h7:262144≤ms.length:=by
        unfold ELog.full at h5
        rw[decide_eq_false h6,Bool.false_or,decide_eq_true_eq]at h5
        rw[HMS.out];exact h5
       have h7':decide ((262144:Int)≤(ms.length:Int))=true:=by simp;omega
       have H5:=Lib.hid h5
       clear h5
       go_enter Tryd.func9,Tryd.ntmps9
       go_wp2_with fail
       refine(HR.out _ HB.out).mono ?_
       rintro e w' ⟨rfl,rfl⟩
       go_wp2_with fail
       refine HH.out.mono ?_
       rintro e w' ⟨rfl,rfl⟩
       go_wp2
       go_ret2
       exact⟨rfl,HB.out⟩
     ·rw[if_neg h5]at he
      exact absurd rfl he
end Go.Proofs.YteigjcichmpejaaDoor
