/- The library's contracts that these proofs use, at this program's numbers (written by the kit's lay-shelf and lay-plain; its remarks struck); each bears its own conditions. -/
import Derived.Shelf.Strings.Builder1
import Derived.Shelf.Strings.BuilderF
import Derived.Shelf.Strings.BuilderK
import Derived.Shelf.Strconv.Atoi
import Derived.Shelf.Strconv.Itoa0
import Derived.Shelf.Strconv.Itoa1
import Derived.Shelf.LaysM
import Derived.Shelf.Strconv.Itoa2
import Derived.Shelf.Strconv.Itoa3
import Derived.Shelf.Strconv.AtoiErrFast
import Derived.Shelf.Strconv.ParseIntEmpty
import Derived.Shelf.Strconv.AtoiFail
import Derived.Shelf.Strconv.Clone
import Derived.Shelf.Strconv.SyntaxError
import Derived.Shelf.LaysC
import Derived.Shelf.Strconv.ToError
import Derived.Shelf.Strconv.Lower
import Derived.Shelf.Strconv.ParseUint10
import Derived.Shelf.Strconv.ParseUint10Empty
import Derived.Shelf.Strconv.ParseUint10Any
import Derived.Shelf.Strconv.ParseInt10
import Derived.Shelf.Strconv.AtoiLong
import Derived.Shelf.Strconv.AtoiInnerAll
import Derived.Shelf.Strconv.RangeError
import Derived.Shelf.Strconv.ToErrorRange
import Derived.Shelf.Strconv.AtoiAll
import Derived.Shelf.Strings.Search1
import Derived.Shelf.Strings.Search2
import Derived.Shelf.Strings.Search3
import Derived.Shelf.Strings.Count
import Derived.Shelf.Strings.Shaped
import Derived.Shelf.Strings.Prefix
import Derived.Shelf.Strings.Split
import Derived.Shelf.Strings.SplitShaped
import Derived.Shelf.Unicode.DecodeSlow
import Derived.Shelf.Slices.Equal
import Derived.Ground.Names2Prog
import Derived.Shelf.Slices.Delete
import Derived.Shelf.Slices.Cells
import Derived.Shelf.Slices.Empties
import Derived.Shelf.Slices.Empties2
import Derived.Test.YteigjcichmpejaaDoorProg
namespace Go.Proofs
open Go.Shelf
def Tryd.laysC172_ren:Go.Shelf.Ren:=⟨fun|172=>61|244=>68|245=>69|247=>76|279=>77|280=>78|281=>79|282=>80|287=>87|316=>88|171=>55|205=>89|321=>95|322=>96|243=>63|246=>70|283=>81|284=>82|285=>83|286=>84|129=>91|317=>90|318=>92|319=>93|320=>94|337=>97|338=>98|n=>n,fun|9=>9|3=>3|75=>87|76=>88|4=>4|5=>5|167=>112|37=>31|0=>0|85=>113|2=>2|168=>115|53=>119|175=>131|46=>111|210=>135|127=>99|145=>144|143=>142|21=>21|171=>118|173=>122|212=>138|51=>128|20=>20|213=>139|232=>146|233=>147|80=>91|n=>n,fun|15=>3|16=>4|17=>5|18=>6|19=>7|n=>n⟩
theorem Tryd.laysC172:Go.Proofs.LaysC.n172 Tryd.prog Tryd.laysC172_ren:={
 mixed:=by kernel_rfl
 f129:=Tryd.func91.trans (congrArg some (by kernel_rfl))
 f171:=Tryd.func55.trans (congrArg some (by kernel_rfl))
 f172:=Tryd.func61.trans (congrArg some (by kernel_rfl))
 f205:=Tryd.func89.trans (congrArg some (by kernel_rfl))
 f243:=Tryd.func63.trans (congrArg some (by kernel_rfl))
 f244:=Tryd.func68.trans (congrArg some (by kernel_rfl))
 f245:=Tryd.func69.trans (congrArg some (by kernel_rfl))
 f246:=Tryd.func70.trans (congrArg some (by kernel_rfl))
 f247:=Tryd.func76.trans (congrArg some (by kernel_rfl))
 f279:=Tryd.func77.trans (congrArg some (by kernel_rfl))
 f280:=Tryd.func78.trans (congrArg some (by kernel_rfl))
 f281:=Tryd.func79.trans (congrArg some (by kernel_rfl))
 f282:=Tryd.func80.trans (congrArg some (by kernel_rfl))
 f283:=Tryd.func81.trans (congrArg some (by kernel_rfl))
 f284:=Tryd.func82.trans (congrArg some (by kernel_rfl))
 f285:=Tryd.func83.trans (congrArg some (by kernel_rfl))
 f286:=Tryd.func84.trans (congrArg some (by kernel_rfl))
 f287:=Tryd.func87.trans (congrArg some (by kernel_rfl))
 f316:=Tryd.func88.trans (congrArg some (by kernel_rfl))
 f317:=Tryd.func90.trans (congrArg some (by kernel_rfl))
 f318:=Tryd.func92.trans (congrArg some (by kernel_rfl))
 f319:=Tryd.func93.trans (congrArg some (by kernel_rfl))
 f320:=Tryd.func94.trans (congrArg some (by kernel_rfl))
 f321:=Tryd.func95.trans (congrArg some (by kernel_rfl))
 f322:=Tryd.func96.trans (congrArg some (by kernel_rfl))
 f337:=Tryd.func97.trans (congrArg some (by kernel_rfl))
 f338:=Tryd.func98.trans (congrArg some (by kernel_rfl))
 t0:=Tryd.underlying0
 a0:=Tryd.isAgg0
 z0:=Tryd.sizeOf0
 v0:=Tryd.zeroValue0
 t2:=Tryd.underlying2
 a2:=Tryd.isAgg2
 z2:=Tryd.sizeOf2
 v2:=Tryd.zeroValue2
 t3:=Tryd.underlying3
 a3:=Tryd.isAgg3
 z3:=Tryd.sizeOf3
 v3:=Tryd.zeroValue3
 t4:=Tryd.underlying4
 a4:=Tryd.isAgg4
 z4:=Tryd.sizeOf4
 v4:=Tryd.zeroValue4
 t5:=Tryd.underlying5
 a5:=Tryd.isAgg5
 z5:=Tryd.sizeOf5
 v5:=Tryd.zeroValue5
 t9:=Tryd.underlying9
 a9:=Tryd.isAgg9
 z9:=Tryd.sizeOf9
 v9:=Tryd.zeroValue9
 t20:=Tryd.underlying20
 a20:=Tryd.isAgg20
 z20:=Tryd.sizeOf20
 v20:=Tryd.zeroValue20
 t21:=Tryd.underlying21
 a21:=Tryd.isAgg21
 z21:=Tryd.sizeOf21
 v21:=Tryd.zeroValue21
 t37:=Tryd.underlying31
 a37:=Tryd.isAgg31
 z37:=Tryd.sizeOf31
 v37:=Tryd.zeroValue31
 t46:=Tryd.underlying111
 a46:=Tryd.isAgg111
 z46:=Tryd.sizeOf111
 v46:=Tryd.zeroValue111
 t51:=Tryd.underlying128
 a51:=Tryd.isAgg128
 z51:=Tryd.sizeOf128
 v51:=Tryd.zeroValue128
 t53:=Tryd.underlying119
 a53:=Tryd.isAgg119
 z53:=Tryd.sizeOf119
 v53:=Tryd.zeroValue119
 t75:=Tryd.underlying87
 a75:=Tryd.isAgg87
 z75:=Tryd.sizeOf87
 v75:=Tryd.zeroValue87
 t76:=Tryd.underlying88
 a76:=Tryd.isAgg88
 z76:=Tryd.sizeOf88
 v76:=Tryd.zeroValue88
 t85:=Tryd.underlying113
 a85:=Tryd.isAgg113
 z85:=Tryd.sizeOf113
 v85:=Tryd.zeroValue113
 t127:=Tryd.underlying99
 a127:=Tryd.isAgg99
 z127:=Tryd.sizeOf99
 v127:=Tryd.zeroValue99
 t143:=Tryd.underlying142
 a143:=Tryd.isAgg142
 z143:=Tryd.sizeOf142
 v143:=Tryd.zeroValue142
 t145:=Tryd.underlying144
 a145:=Tryd.isAgg144
 z145:=Tryd.sizeOf144
 v145:=Tryd.zeroValue144
 t167:=Tryd.underlying112
 a167:=Tryd.isAgg112
 z167:=Tryd.sizeOf112
 v167:=Tryd.zeroValue112
 t168:=Tryd.underlying115
 a168:=Tryd.isAgg115
 z168:=Tryd.sizeOf115
 v168:=Tryd.zeroValue115
 t171:=Tryd.underlying118
 a171:=Tryd.isAgg118
 z171:=Tryd.sizeOf118
 v171:=Tryd.zeroValue118
 t173:=Tryd.underlying122
 a173:=Tryd.isAgg122
 z173:=Tryd.sizeOf122
 v173:=Tryd.zeroValue122
 t175:=Tryd.underlying131
 a175:=Tryd.isAgg131
 z175:=Tryd.sizeOf131
 v175:=Tryd.zeroValue131
 t210:=Tryd.underlying135
 a210:=Tryd.isAgg135
 z210:=Tryd.sizeOf135
 v210:=Tryd.zeroValue135
 t212:=Tryd.underlying138
 a212:=Tryd.isAgg138
 z212:=Tryd.sizeOf138
 v212:=Tryd.zeroValue138
 t213:=Tryd.underlying139
 a213:=Tryd.isAgg139
 z213:=Tryd.sizeOf139
 t232:=Tryd.underlying146
 a232:=Tryd.isAgg146
 z232:=Tryd.sizeOf146
 v232:=Tryd.zeroValue146
 t233:=Tryd.underlying147
 a233:=Tryd.isAgg147
 z233:=Tryd.sizeOf147
 v233:=Tryd.zeroValue147
 g15:=by kernel_rfl
 g16:=by kernel_rfl
 g17:=by kernel_rfl
 g18:=by kernel_rfl
 g19:=by kernel_rfl
 t80:=Tryd.underlying91
 a80:=Tryd.isAgg91
 z80:=Tryd.sizeOf91
 v80:=Tryd.zeroValue91
 i0:=by kernel_rfl
 i2:=by kernel_rfl
 i3:=by kernel_rfl
 i4:=by kernel_rfl
 i5:=by kernel_rfl
 i9:=by kernel_rfl
 i20:=by kernel_rfl
 i21:=by kernel_rfl
 i37:=by kernel_rfl
 i46:=by kernel_rfl
 i51:=by kernel_rfl
 i53:=by kernel_rfl
 i75:=by kernel_rfl
 i76:=by kernel_rfl
 i80:=by kernel_rfl
 i85:=by kernel_rfl
 i127:=by kernel_rfl
 i143:=by kernel_rfl
 i145:=by kernel_rfl
 i167:=by kernel_rfl
 i168:=by kernel_rfl
 i171:=by kernel_rfl
 i173:=by kernel_rfl
 i175:=by kernel_rfl
 i210:=by kernel_rfl
 i212:=by kernel_rfl
 i232:=by kernel_rfl
 i233:=by kernel_rfl
 m15:=by kernel_rfl
 m16:=by kernel_rfl
 m17:=by kernel_rfl
 m18:=by kernel_rfl
 m19:=by kernel_rfl
 c0:=by kernel_rfl
 c2:=by kernel_rfl
 c3:=by kernel_rfl
 c4:=by kernel_rfl
 c5:=by kernel_rfl
 c9:=by kernel_rfl
 c20:=by kernel_rfl
 c21:=by kernel_rfl
 c37:=by kernel_rfl
 c46:=by kernel_rfl
 c51:=by kernel_rfl
 c53:=by kernel_rfl
 c75:=by kernel_rfl
 c76:=by kernel_rfl
 c80:=by kernel_rfl
 c85:=by kernel_rfl
 c127:=by kernel_rfl
 c143:=by kernel_rfl
 c145:=by kernel_rfl
 c167:=by kernel_rfl
 c168:=by kernel_rfl
 c171:=by kernel_rfl
 c173:=by kernel_rfl
 c175:=by kernel_rfl
 c210:=by kernel_rfl
 c212:=by kernel_rfl
 c213:=by kernel_rfl
 c232:=by kernel_rfl
 c233:=by kernel_rfl }
open Go.RowKit in
theorem Tryd.strconv_Atoi_ok (s:ByteArray) (hmax:s.size≤9223372036854775806) (v:Int) (h:Lib.atoiAll s.data.toList= .ok v) (w:World):
 Calls Tryd.prog 61 #[.string s] w fun e w'=>e= .returned (.tuple #[.int .i64 v,.nilIface])∧(w'=w∨∃t,w'=Lib.bytesWorld w 5 t):=Any.strconv_Atoi_ok Tryd.laysC172 s hmax v h w
open Go.RowKit in
theorem Tryd.strconv_Atoi_syntax (s:ByteArray) (hlim:s.size≤281474976710656) (h:Lib.atoiAll s.data.toList= .«syntax») (ev:Value) (w:World) (hv:w.cell? ⟨3,0,none⟩=some ev) (hev:ev= .nilIface∨∃te pe,ev= .iface te pe):
 Calls Tryd.prog 61 #[.string s] w fun e w'=> ∃N,e= .returned (.tuple #[.int .i64 (0),.iface 115 (.pointer (some ⟨N,0,none⟩))])∧w.heap.size≤N∧w'.heap[N]? =some (.cells #[.string ⟨#[65,116,111,105]⟩,.string s,ev] 135 (0,0))∧Below w.heap.size w w':=Any.strconv_Atoi_syntax Tryd.laysC172 s hlim h ev w hv hev
open Go.RowKit in
theorem Tryd.strconv_Atoi_range (s:ByteArray) (hlim:s.size≤281474976710656) (h:Lib.atoiAll s.data.toList= .range) (ev:Value) (w:World) (hv:w.cell? ⟨4,0,none⟩=some ev) (hev:ev= .nilIface∨∃te pe,ev= .iface te pe):
 Calls Tryd.prog 61 #[.string s] w fun e w'=> ∃N,e= .returned (.tuple #[.int .i64 (Lib.atoiSat s.data.toList),.iface 115 (.pointer (some ⟨N,0,none⟩))])∧w.heap.size≤N∧w'.heap[N]? =some (.cells #[.string ⟨#[65,116,111,105]⟩,.string s,ev] 135 (0,0))∧Below w.heap.size w w':=Any.strconv_Atoi_range Tryd.laysC172 s hlim h ev w hv hev
def Tryd.lays99_ren:Go.Shelf.Ren:=⟨fun|99=>47|206=>59|n=>n,fun|9=>9|4=>4|3=>3|n=>n,fun|n=>n⟩
theorem Tryd.lays99:Go.Proofs.Lays.n99 Tryd.prog Tryd.lays99_ren:={
 mixed:=by kernel_rfl
 f99:=Tryd.func47.trans (congrArg some (by kernel_rfl))
 f206:=Tryd.func59.trans (congrArg some (by kernel_rfl))
 t3:=Tryd.underlying3
 a3:=Tryd.isAgg3
 z3:=Tryd.sizeOf3
 v3:=Tryd.zeroValue3
 t4:=Tryd.underlying4
 a4:=Tryd.isAgg4
 z4:=Tryd.sizeOf4
 v4:=Tryd.zeroValue4
 t9:=Tryd.underlying9
 a9:=Tryd.isAgg9
 z9:=Tryd.sizeOf9
 v9:=Tryd.zeroValue9 }
open Go.RowKit Go.Lib in
theorem Tryd.strings_HasPrefix (s p:ByteArray) (w:World):
 Calls Tryd.prog 47 #[.string s,.string p] w fun e w'=>e= .returned (.bool (Lib.hasPrefix s.data.toList p.data.toList))∧w'=w:=Any.strings_HasPrefix Tryd.lays99 s p w
def Tryd.lays146_ren:Go.Shelf.Ren:=⟨fun|146=>29|221=>46|268=>56|138=>57|143=>58|195=>64|197=>65|218=>66|219=>67|260=>71|217=>72|225=>73|224=>74|267=>75|266=>85|314=>86|n=>n,fun|9=>9|31=>70|3=>3|4=>4|0=>0|105=>105|21=>21|5=>5|46=>111|119=>124|139=>127|138=>126|146=>129|51=>128|n=>n,fun|1=>0|3=>1|4=>2|n=>n⟩
theorem Tryd.lays146:Go.Proofs.Lays.n146 Tryd.prog Tryd.lays146_ren:={
 mixed:=by kernel_rfl
 f138:=Tryd.func57.trans (congrArg some (by kernel_rfl))
 f143:=Tryd.func58.trans (congrArg some (by kernel_rfl))
 f146:=Tryd.func29.trans (congrArg some (by kernel_rfl))
 f195:=Tryd.func64.trans (congrArg some (by kernel_rfl))
 f197:=Tryd.func65.trans (congrArg some (by kernel_rfl))
 f217:=Tryd.func72.trans (congrArg some (by kernel_rfl))
 f218:=Tryd.func66.trans (congrArg some (by kernel_rfl))
 f219:=Tryd.func67.trans (congrArg some (by kernel_rfl))
 f221:=Tryd.func46.trans (congrArg some (by kernel_rfl))
 f224:=Tryd.func74.trans (congrArg some (by kernel_rfl))
 f225:=Tryd.func73.trans (congrArg some (by kernel_rfl))
 f260:=Tryd.func71.trans (congrArg some (by kernel_rfl))
 f266:=Tryd.func85.trans (congrArg some (by kernel_rfl))
 f267:=Tryd.func75.trans (congrArg some (by kernel_rfl))
 f268:=Tryd.func56.trans (congrArg some (by kernel_rfl))
 f314:=Tryd.func86.trans (congrArg some (by kernel_rfl))
 t0:=Tryd.underlying0
 a0:=Tryd.isAgg0
 z0:=Tryd.sizeOf0
 v0:=Tryd.zeroValue0
 t3:=Tryd.underlying3
 a3:=Tryd.isAgg3
 z3:=Tryd.sizeOf3
 v3:=Tryd.zeroValue3
 t4:=Tryd.underlying4
 a4:=Tryd.isAgg4
 z4:=Tryd.sizeOf4
 v4:=Tryd.zeroValue4
 t5:=Tryd.underlying5
 a5:=Tryd.isAgg5
 z5:=Tryd.sizeOf5
 v5:=Tryd.zeroValue5
 t9:=Tryd.underlying9
 a9:=Tryd.isAgg9
 z9:=Tryd.sizeOf9
 v9:=Tryd.zeroValue9
 t21:=Tryd.underlying21
 a21:=Tryd.isAgg21
 z21:=Tryd.sizeOf21
 v21:=Tryd.zeroValue21
 t31:=Tryd.underlying70
 a31:=Tryd.isAgg70
 z31:=Tryd.sizeOf70
 v31:=Tryd.zeroValue70
 t46:=Tryd.underlying111
 a46:=Tryd.isAgg111
 z46:=Tryd.sizeOf111
 v46:=Tryd.zeroValue111
 t51:=Tryd.underlying128
 a51:=Tryd.isAgg128
 z51:=Tryd.sizeOf128
 v51:=Tryd.zeroValue128
 t105:=Tryd.underlying105
 a105:=Tryd.isAgg105
 z105:=Tryd.sizeOf105
 v105:=Tryd.zeroValue105
 t119:=Tryd.underlying124
 a119:=Tryd.isAgg124
 z119:=Tryd.sizeOf124
 t138:=Tryd.underlying126
 a138:=Tryd.isAgg126
 z138:=Tryd.sizeOf126
 v138:=Tryd.zeroValue126
 t139:=Tryd.underlying127
 a139:=Tryd.isAgg127
 z139:=Tryd.sizeOf127
 v139:=Tryd.zeroValue127
 t146:=Tryd.underlying129
 a146:=Tryd.isAgg129
 z146:=Tryd.sizeOf129
 v146:=Tryd.zeroValue129
 g1:=by kernel_rfl
 g3:=by kernel_rfl
 g4:=by kernel_rfl }
open Go.RowKit Go.Lib in
theorem Tryd.strings_Split (s sep:ByteArray) (m:Int) (w:World) (hs:s.size<4294967281) (hm:w.cell? ⟨0,0,none⟩=some (.int .i64 m)) (h1:1≤sep.size):
 Calls Tryd.prog 29 #[.string s,.string sep] w fun e w'=>
  e= .returned (.slice (some ⟨w.heap.size,0,none⟩) (Lib.countB s sep+1) (Lib.countB s sep+1))∧w'=w.alloc (.cells ((Lib.splitB sep 0 (Lib.countB s sep) s).map Value.string).toArray 9):=Any.strings_Split Tryd.lays146 (by kernel_rfl) s sep m w hs hm h1
def Tryd.laysNm224_ren:Go.Shelf.Ren:=⟨fun|24=>48|n=>n,fun|24=>70|9=>9|3=>3|4=>4|0=>0|n=>n,fun|n=>n⟩
theorem Tryd.laysNm224:Go.Proofs.Lays2.n24 Tryd.prog Tryd.laysNm224_ren:={
 mixed:=by kernel_rfl
 f24:=Tryd.func48.trans (congrArg some (by kernel_rfl))
 t0:=Tryd.underlying0
 a0:=Tryd.isAgg0
 z0:=Tryd.sizeOf0
 v0:=Tryd.zeroValue0
 t3:=Tryd.underlying3
 a3:=Tryd.isAgg3
 z3:=Tryd.sizeOf3
 v3:=Tryd.zeroValue3
 t4:=Tryd.underlying4
 a4:=Tryd.isAgg4
 z4:=Tryd.sizeOf4
 v4:=Tryd.zeroValue4
 t9:=Tryd.underlying9
 a9:=Tryd.isAgg9
 z9:=Tryd.sizeOf9
 v9:=Tryd.zeroValue9
 t24:=Tryd.underlying70
 a24:=Tryd.isAgg70
 z24:=Tryd.sizeOf70
 v24:=Tryd.zeroValue70
 i9:=by kernel_rfl }
open Go.RowKit Go.Lib Go.Sort in
theorem Tryd.slices_Delete_string (blk off cap i j:Nat) (zs:List (List UInt8)) (w:World) (hH:Holds encStr w blk off zs.toArray) (hcap:zs.length≤cap) (hm:cap≤9223372036854775807) (hij:i≤j) (hj:j≤zs.length):
 Calls Tryd.prog 48 #[.slice (some ⟨blk,off,none⟩) zs.length cap,.int .i64 i,.int .i64 j] w fun e w'=>e= .returned (.slice (some ⟨blk,off,none⟩) (zs.length-(j-i)) cap)∧∃q,w'=putRow encStr (Sort.ahead w q) blk off (zs.take i++zs.drop j++List.replicate (j-i) []).toArray:=Any.slices_Delete_string Tryd.laysNm224 blk off cap i j zs w hH hcap hm hij hj
end Go.Proofs
