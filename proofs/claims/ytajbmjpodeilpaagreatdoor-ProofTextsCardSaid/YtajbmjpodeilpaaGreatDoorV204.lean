/- The library's contracts that these proofs use, at this program's numbers (written by the kit's lay-shelf and lay-plain; its remarks struck); each bears its own conditions. lratext.numbers$1 at any words: yields their numbers up to the first word that is no numeral. strings.Split at a separator of one byte. What a card's row shares, where texts are read: the wrap that hands the listed variables on, the world's shape, the table, the errors, the variable of strings.Index. Steps in memory; lratext.Same at equal steps. A formula, and steps of a proof, that came in: from what memory reads as to the walk's facts. -/
import Derived.Shelf.Strings.Builder1
import Derived.Shelf.Small.Bits
import Derived.Shelf.Strings.BuilderF
import Derived.Shelf.Strings.BuilderK
import Derived.Shelf.Strconv.Atoi
import Derived.Shelf.Strconv.Itoa0
import Derived.Shelf.Strconv.Itoa1
import Derived.Shelf.LaysM
import Derived.Shelf.Strconv.Itoa2
import Derived.Shelf.Strconv.Itoa3
import Derived.Shelf.Strconv.AtoiErrFast
import Derived.Shelf.Strconv.ParseIntEmpty
import Derived.Shelf.Strconv.AtoiFail
import Derived.Shelf.Strconv.Clone
import Derived.Shelf.Strconv.SyntaxError
import Derived.Shelf.LaysC
import Derived.Shelf.Strconv.ToError
import Derived.Shelf.Strconv.AtoiErr
import Derived.Shelf.Strconv.Lower
import Derived.Shelf.Strconv.ParseUint10
import Derived.Shelf.Strconv.ParseUint10Empty
import Derived.Shelf.Strconv.ParseUint10Any
import Derived.Shelf.Strconv.ParseInt10
import Derived.Shelf.Strconv.AtoiLong
import Derived.Shelf.Strconv.AtoiInnerAll
import Derived.Shelf.Strconv.RangeError
import Derived.Shelf.Strconv.ToErrorRange
import Derived.Shelf.Strconv.AtoiAll
import Derived.Shelf.Strings.Search1
import Derived.Shelf.Strings.Search2
import Derived.Shelf.Strings.Search3
import Derived.Shelf.Strings.Count
import Derived.Shelf.Strings.Shaped
import Derived.Shelf.Sort.Plain
import Derived.Shelf.Strings.Prefix
import Derived.Shelf.Strings.Split
import Derived.Shelf.Unicode.DecodeSlow
import Derived.Shelf.Slices.Reverse
import Derived.Ground.Names2Prog
import Derived.Shelf.Slices.SearchI
import Derived.Shelf.Slices.Delete
import Derived.Shelf.Slices.Cells
import Derived.Shelf.Slices.In.SortNone
import Derived.Shelf.Slices.Empties
import Derived.Test.YtajbmjpodeilpaaGreatDoorProg
import Derived.Test.YtajbmjpodeilpaaGreatDoorV200
import Derived.Test.YtajbmjpodeilpaaGreatDoorV203
import Derived.Test.YtajbmjpodeilpaaGreatDoorV201
import Derived.Lib.SmallJoins
import Derived.Lib.AppendIntMem
import Derived.Test.YtajbmjpodeilpaaGreatDoorTie
import Derived.Test.YtajbmjpodeilpaaGreatDoorCards
import Derived.HandedShaped
import Derived.Shelf.Vars
import Derived.Stop.LaidErr
import Derived.LaidLaws
import Derived.Lib.LaidTab
import Derived.SevenTiedAt
import Derived.Test.YtajbmjpodeilpaaGreatDoorV202
import Derived.Deep.DeepCutAuto
import Derived.Deep.CutBlock
import Derived.Shelf.Abstract
import Derived.Deep.Slices
import Derived.Deep.Fields
import Derived.ChangeSame
namespace Go.Proofs
open Go.Shelf
def Tryz.laysC172_ren:Go.Shelf.Ren:=⟨fun|172=>170|244=>205|245=>206|247=>232|279=>233|280=>234|281=>235|282=>236|287=>248|316=>249|171=>171|205=>250|321=>258|322=>259|243=>207|246=>237|283=>251|284=>252|285=>253|286=>254|129=>200|317=>260|318=>261|319=>262|320=>263|337=>265|338=>266|n=>n,fun|9=>9|3=>3|75=>252|76=>253|4=>4|5=>5|167=>305|37=>257|0=>0|85=>306|2=>2|168=>308|53=>283|175=>325|46=>248|210=>329|127=>289|145=>340|143=>338|21=>21|171=>331|173=>333|212=>342|51=>281|20=>20|213=>343|232=>345|233=>346|80=>261|n=>n,fun|15=>3|16=>4|17=>5|18=>6|19=>7|n=>n⟩
theorem Tryz.laysC172:Go.Proofs.LaysC.n172 Tryz.prog Tryz.laysC172_ren:={
 mixed:=by kernel_rfl
 f129:=Tryz.func200.trans (congrArg some (by kernel_rfl))
 f171:=Tryz.func171.trans (congrArg some (by kernel_rfl))
 f172:=Tryz.func170.trans (congrArg some (by kernel_rfl))
 f205:=Tryz.func250.trans (congrArg some (by kernel_rfl))
 f243:=Tryz.func207.trans (congrArg some (by kernel_rfl))
 f244:=Tryz.func205.trans (congrArg some (by kernel_rfl))
 f245:=Tryz.func206.trans (congrArg some (by kernel_rfl))
 f246:=Tryz.func237.trans (congrArg some (by kernel_rfl))
 f247:=Tryz.func232.trans (congrArg some (by kernel_rfl))
 f279:=Tryz.func233.trans (congrArg some (by kernel_rfl))
 f280:=Tryz.func234.trans (congrArg some (by kernel_rfl))
 f281:=Tryz.func235.trans (congrArg some (by kernel_rfl))
 f282:=Tryz.func236.trans (congrArg some (by kernel_rfl))
 f283:=Tryz.func251.trans (congrArg some (by kernel_rfl))
 f284:=Tryz.func252.trans (congrArg some (by kernel_rfl))
 f285:=Tryz.func253.trans (congrArg some (by kernel_rfl))
 f286:=Tryz.func254.trans (congrArg some (by kernel_rfl))
 f287:=Tryz.func248.trans (congrArg some (by kernel_rfl))
 f316:=Tryz.func249.trans (congrArg some (by kernel_rfl))
 f317:=Tryz.func260.trans (congrArg some (by kernel_rfl))
 f318:=Tryz.func261.trans (congrArg some (by kernel_rfl))
 f319:=Tryz.func262.trans (congrArg some (by kernel_rfl))
 f320:=Tryz.func263.trans (congrArg some (by kernel_rfl))
 f321:=Tryz.func258.trans (congrArg some (by kernel_rfl))
 f322:=Tryz.func259.trans (congrArg some (by kernel_rfl))
 f337:=Tryz.func265.trans (congrArg some (by kernel_rfl))
 f338:=Tryz.func266.trans (congrArg some (by kernel_rfl))
 t0:=Tryz.underlying0
 a0:=Tryz.isAgg0
 z0:=Tryz.sizeOf0
 v0:=Tryz.zeroValue0
 t2:=Tryz.underlying2
 a2:=Tryz.isAgg2
 z2:=Tryz.sizeOf2
 v2:=Tryz.zeroValue2
 t3:=Tryz.underlying3
 a3:=Tryz.isAgg3
 z3:=Tryz.sizeOf3
 v3:=Tryz.zeroValue3
 t4:=Tryz.underlying4
 a4:=Tryz.isAgg4
 z4:=Tryz.sizeOf4
 v4:=Tryz.zeroValue4
 t5:=Tryz.underlying5
 a5:=Tryz.isAgg5
 z5:=Tryz.sizeOf5
 v5:=Tryz.zeroValue5
 t9:=Tryz.underlying9
 a9:=Tryz.isAgg9
 z9:=Tryz.sizeOf9
 v9:=Tryz.zeroValue9
 t20:=Tryz.underlying20
 a20:=Tryz.isAgg20
 z20:=Tryz.sizeOf20
 v20:=Tryz.zeroValue20
 t21:=Tryz.underlying21
 a21:=Tryz.isAgg21
 z21:=Tryz.sizeOf21
 v21:=Tryz.zeroValue21
 t37:=Tryz.underlying257
 a37:=Tryz.isAgg257
 z37:=Tryz.sizeOf257
 v37:=Tryz.zeroValue257
 t46:=Tryz.underlying248
 a46:=Tryz.isAgg248
 z46:=Tryz.sizeOf248
 v46:=Tryz.zeroValue248
 t51:=Tryz.underlying281
 a51:=Tryz.isAgg281
 z51:=Tryz.sizeOf281
 v51:=Tryz.zeroValue281
 t53:=Tryz.underlying283
 a53:=Tryz.isAgg283
 z53:=Tryz.sizeOf283
 v53:=Tryz.zeroValue283
 t75:=Tryz.underlying252
 a75:=Tryz.isAgg252
 z75:=Tryz.sizeOf252
 v75:=Tryz.zeroValue252
 t76:=Tryz.underlying253
 a76:=Tryz.isAgg253
 z76:=Tryz.sizeOf253
 v76:=Tryz.zeroValue253
 t85:=Tryz.underlying306
 a85:=Tryz.isAgg306
 z85:=Tryz.sizeOf306
 v85:=Tryz.zeroValue306
 t127:=Tryz.underlying289
 a127:=Tryz.isAgg289
 z127:=Tryz.sizeOf289
 v127:=Tryz.zeroValue289
 t143:=Tryz.underlying338
 a143:=Tryz.isAgg338
 z143:=Tryz.sizeOf338
 v143:=Tryz.zeroValue338
 t145:=Tryz.underlying340
 a145:=Tryz.isAgg340
 z145:=Tryz.sizeOf340
 v145:=Tryz.zeroValue340
 t167:=Tryz.underlying305
 a167:=Tryz.isAgg305
 z167:=Tryz.sizeOf305
 v167:=Tryz.zeroValue305
 t168:=Tryz.underlying308
 a168:=Tryz.isAgg308
 z168:=Tryz.sizeOf308
 v168:=Tryz.zeroValue308
 t171:=Tryz.underlying331
 a171:=Tryz.isAgg331
 z171:=Tryz.sizeOf331
 v171:=Tryz.zeroValue331
 t173:=Tryz.underlying333
 a173:=Tryz.isAgg333
 z173:=Tryz.sizeOf333
 v173:=Tryz.zeroValue333
 t175:=Tryz.underlying325
 a175:=Tryz.isAgg325
 z175:=Tryz.sizeOf325
 v175:=Tryz.zeroValue325
 t210:=Tryz.underlying329
 a210:=Tryz.isAgg329
 z210:=Tryz.sizeOf329
 v210:=Tryz.zeroValue329
 t212:=Tryz.underlying342
 a212:=Tryz.isAgg342
 z212:=Tryz.sizeOf342
 v212:=Tryz.zeroValue342
 t213:=Tryz.underlying343
 a213:=Tryz.isAgg343
 z213:=Tryz.sizeOf343
 t232:=Tryz.underlying345
 a232:=Tryz.isAgg345
 z232:=Tryz.sizeOf345
 v232:=Tryz.zeroValue345
 t233:=Tryz.underlying346
 a233:=Tryz.isAgg346
 z233:=Tryz.sizeOf346
 v233:=Tryz.zeroValue346
 g15:=by kernel_rfl
 g16:=by kernel_rfl
 g17:=by kernel_rfl
 g18:=by kernel_rfl
 g19:=by kernel_rfl
 t80:=Tryz.underlying261
 a80:=Tryz.isAgg261
 z80:=Tryz.sizeOf261
 v80:=Tryz.zeroValue261
 i0:=by kernel_rfl
 i2:=by kernel_rfl
 i3:=by kernel_rfl
 i4:=by kernel_rfl
 i5:=by kernel_rfl
 i9:=by kernel_rfl
 i20:=by kernel_rfl
 i21:=by kernel_rfl
 i37:=by kernel_rfl
 i46:=by kernel_rfl
 i51:=by kernel_rfl
 i53:=by kernel_rfl
 i75:=by kernel_rfl
 i76:=by kernel_rfl
 i80:=by kernel_rfl
 i85:=by kernel_rfl
 i127:=by kernel_rfl
 i143:=by kernel_rfl
 i145:=by kernel_rfl
 i167:=by kernel_rfl
 i168:=by kernel_rfl
 i171:=by kernel_rfl
 i173:=by kernel_rfl
 i175:=by kernel_rfl
 i210:=by kernel_rfl
 i212:=by kernel_rfl
 i232:=by kernel_rfl
 i233:=by kernel_rfl
 m15:=by kernel_rfl
 m16:=by kernel_rfl
 m17:=by kernel_rfl
 m18:=by kernel_rfl
 m19:=by kernel_rfl
 c0:=by kernel_rfl
 c2:=by kernel_rfl
 c3:=by kernel_rfl
 c4:=by kernel_rfl
 c5:=by kernel_rfl
 c9:=by kernel_rfl
 c20:=by kernel_rfl
 c21:=by kernel_rfl
 c37:=by kernel_rfl
 c46:=by kernel_rfl
 c51:=by kernel_rfl
 c53:=by kernel_rfl
 c75:=by kernel_rfl
 c76:=by kernel_rfl
 c80:=by kernel_rfl
 c85:=by kernel_rfl
 c127:=by kernel_rfl
 c143:=by kernel_rfl
 c145:=by kernel_rfl
 c167:=by kernel_rfl
 c168:=by kernel_rfl
 c171:=by kernel_rfl
 c173:=by kernel_rfl
 c175:=by kernel_rfl
 c210:=by kernel_rfl
 c212:=by kernel_rfl
 c213:=by kernel_rfl
 c232:=by kernel_rfl
 c233:=by kernel_rfl }
open Go.RowKit in
theorem Tryz.strconv_Atoi_ok (s:ByteArray) (hmax:s.size≤9223372036854775806) (v:Int) (h:Lib.atoiAll s.data.toList= .ok v) (w:World):
 Calls Tryz.prog 170 #[.string s] w fun e w'=>e= .returned (.tuple #[.int .i64 v,.nilIface])∧(w'=w∨∃t,w'=Lib.bytesWorld w 5 t):=Any.strconv_Atoi_ok Tryz.laysC172 s hmax v h w
open Go.RowKit in
theorem Tryz.strconv_Atoi_syntax (s:ByteArray) (hlim:s.size≤281474976710656) (h:Lib.atoiAll s.data.toList=Lib.atoiAll []) (ev:Value) (w:World) (hv:w.cell? ⟨3,0,none⟩=some ev) (hev:ev= .nilIface∨∃te pe,ev= .iface te pe):
 Calls Tryz.prog 170 #[.string s] w fun e w'=> ∃N,e= .returned (.tuple #[.int .i64 (0),.iface 308 (.pointer (some ⟨N,0,none⟩))])∧w.heap.size≤N∧w'.heap[N]? =some (.cells #[.string ⟨#[65,116,111,105]⟩,.string s,ev] 329 (0,0))∧Below w.heap.size w w':=Any.strconv_Atoi_syntax Tryz.laysC172 s hlim h ev w hv hev
open Go.RowKit in
theorem Tryz.strconv_Atoi_range (s:ByteArray) (hlim:s.size≤281474976710656) (h:Lib.atoiAll s.data.toList= .range) (ev:Value) (w:World) (hv:w.cell? ⟨4,0,none⟩=some ev) (hev:ev= .nilIface∨∃te pe,ev= .iface te pe):
 Calls Tryz.prog 170 #[.string s] w fun e w'=> ∃N,e= .returned (.tuple #[.int .i64 (Lib.atoiSat s.data.toList),.iface 308 (.pointer (some ⟨N,0,none⟩))])∧w.heap.size≤N∧w'.heap[N]? =some (.cells #[.string ⟨#[65,116,111,105]⟩,.string s,ev] 329 (0,0))∧Below w.heap.size w w':=Any.strconv_Atoi_range Tryz.laysC172 s hlim h ev w hv hev
def Tryz.lays99_ren:Go.Shelf.Ren:=⟨fun|99=>131|206=>168|n=>n,fun|9=>9|4=>4|3=>3|n=>n,fun|n=>n⟩
theorem Tryz.lays99:Go.Proofs.Lays.n99 Tryz.prog Tryz.lays99_ren:={
 mixed:=by kernel_rfl
 f99:=Tryz.func131.trans (congrArg some (by kernel_rfl))
 f206:=Tryz.func168.trans (congrArg some (by kernel_rfl))
 t3:=Tryz.underlying3
 a3:=Tryz.isAgg3
 z3:=Tryz.sizeOf3
 v3:=Tryz.zeroValue3
 t4:=Tryz.underlying4
 a4:=Tryz.isAgg4
 z4:=Tryz.sizeOf4
 v4:=Tryz.zeroValue4
 t9:=Tryz.underlying9
 a9:=Tryz.isAgg9
 z9:=Tryz.sizeOf9
 v9:=Tryz.zeroValue9 }
open Go.RowKit Go.Lib in
theorem Tryz.strings_HasPrefix (s p:ByteArray) (w:World):
 Calls Tryz.prog 131 #[.string s,.string p] w fun e w'=>e= .returned (.bool (Lib.hasPrefix s.data.toList p.data.toList))∧w'=w:=Any.strings_HasPrefix Tryz.lays99 s p w
def Tryz.lays146_ren:Go.Shelf.Ren:=⟨fun|146=>89|221=>130|268=>165|138=>166|143=>167|195=>201|197=>202|218=>203|219=>204|260=>227|217=>228|225=>229|224=>230|267=>231|266=>246|314=>247|n=>n,fun|9=>9|31=>49|3=>3|4=>4|0=>0|105=>285|21=>21|5=>5|46=>248|119=>319|139=>322|138=>321|146=>323|51=>281|n=>n,fun|1=>0|3=>1|4=>2|n=>n⟩
theorem Tryz.lays146:Go.Proofs.Lays.n146 Tryz.prog Tryz.lays146_ren:={
 mixed:=by kernel_rfl
 f138:=Tryz.func166.trans (congrArg some (by kernel_rfl))
 f143:=Tryz.func167.trans (congrArg some (by kernel_rfl))
 f146:=Tryz.func89.trans (congrArg some (by kernel_rfl))
 f195:=Tryz.func201.trans (congrArg some (by kernel_rfl))
 f197:=Tryz.func202.trans (congrArg some (by kernel_rfl))
 f217:=Tryz.func228.trans (congrArg some (by kernel_rfl))
 f218:=Tryz.func203.trans (congrArg some (by kernel_rfl))
 f219:=Tryz.func204.trans (congrArg some (by kernel_rfl))
 f221:=Tryz.func130.trans (congrArg some (by kernel_rfl))
 f224:=Tryz.func230.trans (congrArg some (by kernel_rfl))
 f225:=Tryz.func229.trans (congrArg some (by kernel_rfl))
 f260:=Tryz.func227.trans (congrArg some (by kernel_rfl))
 f266:=Tryz.func246.trans (congrArg some (by kernel_rfl))
 f267:=Tryz.func231.trans (congrArg some (by kernel_rfl))
 f268:=Tryz.func165.trans (congrArg some (by kernel_rfl))
 f314:=Tryz.func247.trans (congrArg some (by kernel_rfl))
 t0:=Tryz.underlying0
 a0:=Tryz.isAgg0
 z0:=Tryz.sizeOf0
 v0:=Tryz.zeroValue0
 t3:=Tryz.underlying3
 a3:=Tryz.isAgg3
 z3:=Tryz.sizeOf3
 v3:=Tryz.zeroValue3
 t4:=Tryz.underlying4
 a4:=Tryz.isAgg4
 z4:=Tryz.sizeOf4
 v4:=Tryz.zeroValue4
 t5:=Tryz.underlying5
 a5:=Tryz.isAgg5
 z5:=Tryz.sizeOf5
 v5:=Tryz.zeroValue5
 t9:=Tryz.underlying9
 a9:=Tryz.isAgg9
 z9:=Tryz.sizeOf9
 v9:=Tryz.zeroValue9
 t21:=Tryz.underlying21
 a21:=Tryz.isAgg21
 z21:=Tryz.sizeOf21
 v21:=Tryz.zeroValue21
 t31:=Tryz.underlying49
 a31:=Tryz.isAgg49
 z31:=Tryz.sizeOf49
 v31:=Tryz.zeroValue49
 t46:=Tryz.underlying248
 a46:=Tryz.isAgg248
 z46:=Tryz.sizeOf248
 v46:=Tryz.zeroValue248
 t51:=Tryz.underlying281
 a51:=Tryz.isAgg281
 z51:=Tryz.sizeOf281
 v51:=Tryz.zeroValue281
 t105:=Tryz.underlying285
 a105:=Tryz.isAgg285
 z105:=Tryz.sizeOf285
 v105:=Tryz.zeroValue285
 t119:=Tryz.underlying319
 a119:=Tryz.isAgg319
 z119:=Tryz.sizeOf319
 t138:=Tryz.underlying321
 a138:=Tryz.isAgg321
 z138:=Tryz.sizeOf321
 v138:=Tryz.zeroValue321
 t139:=Tryz.underlying322
 a139:=Tryz.isAgg322
 z139:=Tryz.sizeOf322
 v139:=Tryz.zeroValue322
 t146:=Tryz.underlying323
 a146:=Tryz.isAgg323
 z146:=Tryz.sizeOf323
 v146:=Tryz.zeroValue323
 g1:=by kernel_rfl
 g3:=by kernel_rfl
 g4:=by kernel_rfl }
open Go.RowKit Go.Lib in
theorem Tryz.strings_Split (s sep:ByteArray) (m:Int) (w:World) (hs:s.size<4294967281) (hm:w.cell? ⟨0,0,none⟩=some (.int .i64 m)) (h1:1≤sep.size):
 Calls Tryz.prog 89 #[.string s,.string sep] w fun e w'=>
  e= .returned (.slice (some ⟨w.heap.size,0,none⟩) (Lib.countB s sep+1) (Lib.countB s sep+1))∧w'=w.alloc (.cells ((Lib.splitB sep 0 (Lib.countB s sep) s).map Value.string).toArray 9):=Any.strings_Split Tryz.lays146 (by kernel_rfl) s sep m w hs hm h1
def Tryz.laysNm224_ren:Go.Shelf.Ren:=⟨fun|24=>132|n=>n,fun|24=>49|9=>9|3=>3|4=>4|0=>0|n=>n,fun|n=>n⟩
theorem Tryz.laysNm224:Go.Proofs.Lays2.n24 Tryz.prog Tryz.laysNm224_ren:={
 mixed:=by kernel_rfl
 f24:=Tryz.func132.trans (congrArg some (by kernel_rfl))
 t0:=Tryz.underlying0
 a0:=Tryz.isAgg0
 z0:=Tryz.sizeOf0
 v0:=Tryz.zeroValue0
 t3:=Tryz.underlying3
 a3:=Tryz.isAgg3
 z3:=Tryz.sizeOf3
 v3:=Tryz.zeroValue3
 t4:=Tryz.underlying4
 a4:=Tryz.isAgg4
 z4:=Tryz.sizeOf4
 v4:=Tryz.zeroValue4
 t9:=Tryz.underlying9
 a9:=Tryz.isAgg9
 z9:=Tryz.sizeOf9
 v9:=Tryz.zeroValue9
 t24:=Tryz.underlying49
 a24:=Tryz.isAgg49
 z24:=Tryz.sizeOf49
 v24:=Tryz.zeroValue49
 i9:=by kernel_rfl }
open Go.RowKit Go.Lib Go.Sort in
theorem Tryz.slices_Delete_string (blk off cap i j:Nat) (zs:List (List UInt8)) (w:World) (hH:Holds encStr w blk off zs.toArray) (hcap:zs.length≤cap) (hm:cap≤9223372036854775807) (hij:i≤j) (hj:j≤zs.length):
 Calls Tryz.prog 132 #[.slice (some ⟨blk,off,none⟩) zs.length cap,.int .i64 i,.int .i64 j] w fun e w'=>e= .returned (.slice (some ⟨blk,off,none⟩) (zs.length-(j-i)) cap)∧∃q,w'=putRow encStr (Sort.ahead w q) blk off (zs.take i++zs.drop j++List.replicate (j-i) []).toArray:=Any.slices_Delete_string Tryz.laysNm224 blk off cap i j zs w hH hcap hm hij hj
end Go.Proofs
namespace Go.Proofs.YtajbmjpodeilpaaGreatDoor
open Go.RowKit Go.Shelf
attribute [local go_sem] Oper.semAt_some
theorem grown_below {W W':World} (h:Below W.heap.size W W'):W.grownBy W' none:=
 ⟨h.os,h.tape,h.output,h.size,fun k hk _=>h.block k hk⟩
def WordsAt (O:Nat→Prop) (w:World) (u:Value) (ws:List (List UInt8)):Prop:=
 ∃A c,u= .slice A ws.length c∧∀(i:Nat) (x:List UInt8),ws[i]? =some x→∃g o,A=some ⟨g,o,none⟩∧g<w.heap.size∧O g∧w.cell? ⟨g,o+i,none⟩=some (.string ⟨x.toArray⟩)
theorem WordsAt.below {O:Nat→Prop} {w w':World} {u:Value} {ws:List (List UInt8)} (h:WordsAt O w u ws) (hb:Below w.heap.size w w'):WordsAt O w' u ws:=by
 obtain⟨A,c,h1,h2⟩:=h
 refine⟨A,c,h1,fun i x hx=>?_⟩
 obtain⟨g,o,h3,h4,h5,h6⟩:=h2 i x hx
 exact⟨g,o,h3,Nat.lt_of_lt_of_le h4 hb.size,h5,(hb.cell (p:=⟨g,o+i,none⟩) h4).trans h6⟩
theorem WordsAt.kept {O O':Nat→Prop} {w w':World} {u:Value} {ws:List (List UInt8)} (h:WordsAt O w u ws) (k:Kept O' w w') (hO: ∀g,O g→¬O' g):WordsAt O w' u ws:=by
 obtain⟨A,c,h1,h2⟩:=h
 refine⟨A,c,h1,fun i x hx=>?_⟩
 obtain⟨g,o,h3,h4,h5,h6⟩:=h2 i x hx
 exact⟨g,o,h3,Nat.lt_of_lt_of_le h4 k.size,h5,(k.cell (p:=⟨g,o+i,none⟩) h4 (hO g h5)).trans h6⟩
def ErrC (w:World):Prop:=(∃e,w.cell? ⟨3,0,none⟩=some e∧(e= .nilIface∨∃te pe,e= .iface te pe))∧∃e,w.cell? ⟨4,0,none⟩=some e∧(e= .nilIface∨∃te pe,e= .iface te pe)
theorem ErrC.below {w w':World} (h:ErrC w) (hb:Below w.heap.size w w'):ErrC w':=by
 obtain⟨⟨e,h1,h2⟩,f,h3,h4⟩:=h
 exact⟨⟨e,(hb.cell (p:=⟨3,0,none⟩) (World.block_lt_of_cell? w _ h1)).trans h1,h2⟩,f,(hb.cell (p:=⟨4,0,none⟩) (World.block_lt_of_cell? w _ h3)).trans h3,h4⟩
theorem atoi_no (wd:List UInt8) (w:World) (hl:wd.length≤100000000) (he:ErrC w) (h:Lib.atoiAll wd=Lib.atoiAll []∨Lib.atoiAll wd= .range):
  Calls Tryz.prog 170 #[.string ⟨wd.toArray⟩] w fun e w'=> ∃n t p,e= .returned (.tuple #[.int .i64 n,.iface t p])∧Below w.heap.size w w':=by
 obtain⟨⟨e1,h1,h2⟩,e2,h3,h4⟩:=he
 rcases h with h|h
 ·refine(Tryz.strconv_Atoi_syntax ⟨wd.toArray⟩ (by show wd.length≤_;omega) h e1 w h1 h2).mono ?_
  rintro e w' ⟨N,rfl,_,_,hb⟩
  exact⟨_,_,_,rfl,hb⟩
 ·refine(Tryz.strconv_Atoi_range ⟨wd.toArray⟩ (by show wd.length≤_;omega) h e2 w h3 h4).mono ?_
  rintro e w' ⟨N,rfl,_,_,hb⟩
  exact⟨_,_,_,rfl,hb⟩
theorem atoi_yes (wd:List UInt8) (v:Int) (w:World) (hl:wd.length≤100000000) (h:Lib.atoiAll wd= .ok v):
  Calls Tryz.prog 170 #[.string ⟨wd.toArray⟩] w fun e w'=>e= .returned (.tuple #[.int .i64 v,.nilIface])∧Below w.heap.size w w':=by
 refine(Tryz.strconv_Atoi_ok ⟨wd.toArray⟩ (by show wd.length≤_;omega) v h w).mono ?_
 rintro e w' ⟨rfl,h⟩
 refine⟨rfl,?_⟩
 rcases h with rfl|⟨t,rfl⟩
 ·exact Below.refl _ _
 ·exact Lib.bytesWorld_below _ _ _
set_option maxRecDepth 100000 in
set_option maxHeartbeats 2000000 in
theorem numbersW_in {O X:Nat→Prop} (l Bb:Nat) (u:Value) (ws:List (List UInt8)) (J Jx:List Int→World→Prop) (W:World) (hJ:AbidesFrom W.heap.size J)
  (hY: ∀pre x W1,J pre W1→pre.length<(numsW ws).length→YieldAt Fence.wide 7 Tryz.prog l #[.int .i64 x] W1 fun e W'=>
   (e= .returned (.bool true)∧J (pre++ [x]) W'∧KpC X W1 W')∨(e= .returned (.bool false)∧Jx (pre++ [x]) W'))
  (hB:W.cell? ⟨Bb,0,none⟩=some u) (hX: ¬X Bb) (hu:WordsAt O W u ws) (hOX: ∀g,O g→¬X g) (hlen:ws.length≤140737488355328)
  (hs: ∀x∈ws,x.length≤100000000)
  (hT: ∀W',KpC X W W'→Lib.TabIs Tryz.prog W' "internal/strconv.uint64pow10" .u64 Lib.pow10Tab∧ErrC W') (h0:J [] W):
  CallsIn Fence.wide 8 Tryz.prog 169 #[.func (.yield l) #[] #[],.pointer (some ⟨Bb,0,none⟩)] W fun e W'=>(∃v,e= .returned v)∧
   ((∃ys,ys=numsW ws∧J ys W')∨(∃pre,(pre <+: numsW ws∧pre≠ [])∧Jx pre W')):=by
 have hB':=World.block_lt_of_cell? W _ hB
 obtain⟨xs,hxs0⟩: ∃xs,numsW ws=xs:=⟨_,rfl⟩
 have HXE:=Lib.hid hxs0
 have HLE:=Lib.hid (show xs.length≤ws.length from hxs0▸numsW_le ws)
 rw[hxs0]at hY⊢
 have HB:=Lib.hid hB
 have HY:=Lib.hid hY
 have HX:=Lib.hid hX
 have HOX:=Lib.hid hOX
 have H0:=Lib.hid h0
 have HS:=Lib.hid hs
 have HT:=Lib.hid hT
 have HJA:=Lib.hid hJ
 obtain⟨A,c,rfl,hxs⟩:=hu
 have HXS:=Lib.hid hxs
 clear hY hX hOX h0 hs hT hJ hxs hxs0
 refine callsIn_of_wp Tryz.func169 rfl trivial ?_ rfl
 simp only[Tryz.ntmps169,List.size_toArray,List.length_cons,List.length_nil,Nat.reduceAdd,Nat.reduceSub,Array.replicate_succ,Array.replicate_zero,List.push_toArray,List.append_toArray,List.nil_append,List.cons_append]
 gi_wp2
 gi_loopw [9] (fun i wr=> ∃k:Nat,k≤ws.length∧i= .int .i64 k∧Hid (k≤xs.length)∧Hid (KpC X W wr)∧Hid (J (xs.take k) wr)) (fun i _=>ws.length-(intOf i).toNat)
 case atStart=>exact⟨0,Nat.zero_le _,rfl,Lib.hid (Nat.zero_le _),Lib.hid (KpC.refl _ _),H0⟩
 case round=>
  obtain⟨k,hk,rfl,HKX,HK,HJ⟩:=hrel
  by_cases hlt:k<ws.length
  ·obtain⟨wd,hwk⟩:=getElem_of hlt
   obtain⟨g,o,rfl,hg,hgo,d0⟩:=HXS.out k wd hwk
   have hxo:=xo_cell d0
   have d1:wr.cell? ⟨g,o+k,none⟩=some (.string ⟨wd.toArray⟩):=(HK.out.kept.cell (p:=⟨g,o+k,none⟩) hg (fun h=>h.elim (HOX.out g hgo) hxo)).trans d0
   have hwl:=HS.out wd (List.mem_of_getElem? hwk)
   have HTE:=Lib.hid (HT.out wr HK.out)
   have hways:=atoi_word wd
   have HWK:=Lib.hid hwk
   clear hwk hxo d0 hgo
   rcases hways with⟨x,hnw,hat,rfl,hx0,hx1⟩|⟨hnw,hway⟩
   ·have hxk:xs[k]? =some x:=by
     rcases Nat.lt_or_ge k xs.length with h|h
     ·obtain⟨y,hy⟩:=getElem_of h
      obtain⟨w2,h2,h3⟩:=numsW_take ws k y (by rw[HXE.out];exact hy)
      have e:=HWK.out.symm.trans h2
      obtain rfl:=Option.some.inj e
      rw[hnw]at h3
      rw[hy,h3]
     ·have hke:k=xs.length:=Nat.le_antisymm HKX.out h
      have:=numsW_end ws (Lib.itoa x) (by rw[HXE.out,←hke];exact HWK.out)
      rw[hnw]at this
      cases this
    have hkx:=(List.getElem?_eq_some_iff.1 hxk).1
    have HKL:=Lib.hid hkx
    have HTK:=Lib.hid (show xs.take (k+1)=xs.take k++ [x]from by rw[List.take_add_one,hxk];rfl)
    have HAT:=Lib.hid (atoi_yes (Lib.itoa x) x wr hwl hat)
    have HR01:=Lib.hid (show(-9223372036854775808:Int)≤x∧x≤9223372036854775807 from⟨hx0,hx1⟩)
    clear hxk hat hx0 hx1 hkx hnw hwl
    gi_wp2_with fail
    refine⟨trivial,?_⟩
    refine(callsIn_wide.2 HAT.out).mono ?_
    rintro e w1 ⟨rfl,hb1⟩
    have HK1:=Lib.hid (HK.out.trans (KpC.of_below hb1))
    have HB1:=Lib.hid hb1
    have HIT:=Lib.hid (Tryz.strconv_Itoa x HR01.out.1 HR01.out.2 w1 (HT.out w1 HK1.out).1)
    clear hb1
    gi_wp2_with fail
    refine⟨trivial,?_⟩
    refine(callsIn_wide.2 HIT.out).mono ?_
    rintro e w2 ⟨rfl,q,os,hw2⟩
    have hb2:Below w1.heap.size w1 w2:=by rw[hw2];exact Lib.below_grow _ _ (Nat.le_refl _) _ _
    have HB2:=Lib.hid (HB1.out.trans (hb2.mono HB1.out.size))
    have HK2:=Lib.hid (HK.out.trans (KpC.of_below HB2.out))
    have hJ2:J (xs.take k) w2:=HJA.out _ _ _ none HJ.out (grown_below HB2.out) (fun r e=>by cases e)
    obtain⟨fn,tmps,assign,body,hy,hR⟩:=HY.out (xs.take k) x w2 hJ2 (by rw[List.length_take];have:=HKL.out;omega)
    have HR:=Lib.hid hR
    clear hw2 hb2 hJ2 hR d1
    gi_wp2_with fail
    refine HR.out.mono ?_
    rintro e W3 (⟨rfl,hJ3,hk3⟩|⟨rfl,hJx3⟩)
    ·have HJ3:=Lib.hid hJ3
     have HK3:=Lib.hid (HK2.out.trans hk3)
     clear hJ3 hk3 hy
     gi_wp2_with fail
     go_roundw
     case rel=>exact⟨k+1,by omega,by go_num,Lib.hid HKL.out,HK3,Lib.hid (by rw[HTK.out];exact HJ3.out)⟩
     case measure=>simp[intOf];omega
    ·gi_wp2
     refine bodyPost_ret (results_none rfl _ _ _) rfl ?_
     exact⟨⟨_,rfl⟩,.inr ⟨xs.take k++ [x],⟨by rw[←HTK.out];exact List.take_prefix _ _,by simp⟩,hJx3⟩⟩
   ·have hke:k=xs.length:=Nat.le_antisymm HKX.out (Nat.le_of_not_lt fun h=>by
     obtain⟨y,hy⟩:=getElem_of h
     obtain⟨w2,h2,h3⟩:=numsW_take ws k y (by rw[HXE.out];exact hy)
     have e:=HWK.out.symm.trans h2
     obtain rfl:=Option.some.inj e
     rw[hnw]at h3
     cases h3)
    have HJX:Hid (J xs wr):=Lib.hid (by
     have h:=HJ.out
     rw[hke,List.take_length]at h
     exact h)
    clear hke hnw
    rcases hway with⟨v,hat,hne,hv0,hv1⟩|hat
    ·have HAT:=Lib.hid (atoi_yes wd v wr hwl hat)
     have HR01:=Lib.hid (show(-9223372036854775808:Int)≤v∧v≤9223372036854775807 from⟨hv0,hv1⟩)
     have hbn:(Lib.itoa v==wd)=false:=beq_eq_false_iff_ne.2 hne
     have hbm:(Lib.itoa v != wd)=true:=bne_iff_ne.2 hne
     clear hat hv0 hv1 hwl
     gi_wp2_with fail
     refine⟨trivial,?_⟩
     refine(callsIn_wide.2 HAT.out).mono ?_
     rintro e w1 ⟨rfl,hb1⟩
     have HK1:=Lib.hid (HK.out.trans (KpC.of_below hb1))
     have HB1:=Lib.hid hb1
     have HIT:=Lib.hid (Tryz.strconv_Itoa v HR01.out.1 HR01.out.2 w1 (HT.out w1 HK1.out).1)
     clear hb1
     gi_wp2_with fail
     refine⟨trivial,?_⟩
     refine(callsIn_wide.2 HIT.out).mono ?_
     rintro e w2 ⟨rfl,q,os,hw2⟩
     have hb2:Below w1.heap.size w1 w2:=by rw[hw2];exact Lib.below_grow _ _ (Nat.le_refl _) _ _
     have HB2:=Lib.hid (HB1.out.trans (hb2.mono HB1.out.size))
     have hJ2:J xs w2:=HJA.out _ _ _ none HJX.out (grown_below HB2.out) (fun r e=>by cases e)
     clear hw2 hb2 d1
     gi_wp2_with fail
     refine⟨fun _ h=>(by cases h),?_⟩
     gi_wp2
     refine bodyPost_ret (results_none rfl _ _ _) rfl ?_
     exact⟨⟨_,rfl⟩,.inl ⟨xs,rfl,hJ2⟩⟩
    ·have HAT:=Lib.hid (atoi_no wd wr hwl HTE.out.2 hat)
     clear hat hwl
     gi_wp2_with fail
     refine⟨trivial,?_⟩
     refine(callsIn_wide.2 HAT.out).mono ?_
     rintro e w1 ⟨n,t,p,rfl,hb1⟩
     have hJ2:J xs w1:=HJA.out _ _ _ none HJX.out (grown_below hb1) (fun r e=>by cases e)
     clear hb1 d1
     gi_wp2_with fail
     refine⟨trivial,?_⟩
     gi_wp2_with fail
     refine⟨fun _ h=>(by cases h),?_⟩
     gi_wp2
     refine bodyPost_ret (results_none rfl _ _ _) rfl ?_
     exact⟨⟨_,rfl⟩,.inl ⟨xs,rfl,hJ2⟩⟩
  ·obtain rfl:k=ws.length:=by omega
   have HJX:Hid (J xs wr):=Lib.hid (by
    have h:=HJ.out
    rw[List.take_of_length_le (Nat.le_trans HLE.out (Nat.le_refl _))]at h
    exact h)
   gi_wp2
   go_end0
   exact⟨⟨_,rfl⟩,.inl ⟨xs,rfl,HJX.out⟩⟩
theorem numbersW_stops {O X:Nat→Prop} (Bb:Nat) (u:Value) (ws:List (List UInt8)) (w:World) (hB:w.cell? ⟨Bb,0,none⟩=some u) (hX: ¬X Bb) (hu:WordsAt O w u ws) (hOX: ∀g,O g→¬X g) (hlen:ws.length≤140737488355328)
  (hs: ∀x∈ws,x.length≤100000000)
  (hT: ∀W W',Below w.heap.size w W→KpC X W W'→Lib.TabIs Tryz.prog W' "internal/strconv.uint64pow10" .u64 Lib.pow10Tab∧ErrC W'):
  SeqStopsK Fence.wide 8 Tryz.prog 169 #[.pointer (some ⟨Bb,0,none⟩)] (fun x:Int=> #[Value.int .i64 x]) (KpC X) (fun ys=>ys=numsW ws) (fun pre=>pre <+: numsW ws∧pre≠ []) (numsW ws).length w:=fun l J Jx W hW hJ _ hY h0=>
 numbersW_in l Bb u ws J Jx W hJ hY ((hW.cell (p:=⟨Bb,0,none⟩) (World.block_lt_of_cell? w _ hB)).trans hB) hX (hu.below hW) hOX hlen hs (fun W' h=>hT W W' hW h) h0
end Go.Proofs.YtajbmjpodeilpaaGreatDoor
namespace Go.Proofs.YtajbmjpodeilpaaGreatDoor
open Go.RowKit
def MaxC (w:World):Prop:= ∃m:Int,w.cell? ⟨0,0,none⟩=some (.int .i64 m)
theorem MaxC.below {w w':World} (h:MaxC w) (hb:Below w.heap.size w w'):MaxC w':=by
 obtain⟨m,hm⟩:=h
 exact⟨m,(hb.cell (p:=⟨0,0,none⟩) (World.block_lt_of_cell? w _ hm)).trans hm⟩
theorem splitB_spl (t:List UInt8) (c:UInt8):Lib.splitB ⟨#[c]⟩ 0 (Lib.countB ⟨t.toArray⟩ ⟨#[c]⟩) ⟨t.toArray⟩=(spl c t).map fun x=>(⟨x.toArray⟩:ByteArray):=by
 have h:=Lib.splitB_data ⟨#[c]⟩ 0 (Lib.countB ⟨t.toArray⟩ ⟨#[c]⟩) ⟨t.toArray⟩
 have h2:Lib.splitK [c] 0 (Lib.countB ⟨t.toArray⟩ ⟨#[c]⟩) t=spl c t:=split_spl c t
 have h3:(Lib.splitB ⟨#[c]⟩ 0 (Lib.countB ⟨t.toArray⟩ ⟨#[c]⟩) ⟨t.toArray⟩).map (·.data.toList)=spl c t:=h.trans h2
 rw[←h3,List.map_map]
 symm
 exact(List.map_congr_left fun x _=>rfl).trans (List.map_id _)
theorem split_any (t:List UInt8) (c:UInt8) (w:World) (hs:t.length<4294967281) (hm:MaxC w):
  Calls Tryz.prog 89 #[.string ⟨t.toArray⟩,.string ⟨#[c]⟩] w fun e w'=>e= .returned (.slice (some ⟨w.heap.size,0,none⟩) (spl c t).length (spl c t).length)∧
   w'.heap[w.heap.size]? =some (.cells ((spl c t).map fun x=>Value.string ⟨x.toArray⟩).toArray 9 (0,0))∧Below w.heap.size w w':=by
 obtain⟨m,hm⟩:=hm
 have hl:Lib.countB ⟨t.toArray⟩ ⟨#[c]⟩+1=(spl c t).length:=by
  have h:=Lib.splitB_all ⟨#[c]⟩ (Nat.le_refl _) 0 _ ⟨t.toArray⟩ rfl
  rw[splitB_spl,List.length_map]at h
  exact h.symm
 refine(Tryz.strings_Split ⟨t.toArray⟩ ⟨#[c]⟩ m w hs hm (Nat.le_refl _)).mono ?_
 rintro e w' ⟨rfl,rfl⟩
 refine⟨by rw[hl],?_,(Below.refl _ _).alloc (Nat.le_refl _) _⟩
 rw[World.alloc_heap_new,splitB_spl,List.map_map]
 rfl
end Go.Proofs.YtajbmjpodeilpaaGreatDoor
namespace Go.Proofs.YtajbmjpodeilpaaGreatDoor
open Go.ChangeShapes Go.WideShapes Go.ChangeAt Go.RowKit
set_option maxRecDepth 100000
def laidL:List (String×DataW Unit):= [("math/bits.deBruijn32tab",Rows.laid_math_bits_deBruijn32tab),("math/bits.deBruijn64tab",Rows.laid_math_bits_deBruijn64tab),("internal/strconv.uint64pow10",Rows.laid_internal_strconv_uint64pow10),("unicode/utf8.acceptRanges",Rows.laid_unicode_utf8_acceptRanges),("strconv.ErrRange",Rows.laid_strconv_ErrRange),("strconv.ErrSyntax",Rows.laid_strconv_ErrSyntax),("unicode/utf8.first",Rows.laid_unicode_utf8_first)]
theorem handed_both {H:Type} {enc:TypeId×Value→H} {a:Assume} {C:Checked} {os:Os} {f:FuncId} {fn:Func} {s:ChangeSpec} {conds:List PathCond} {apart fresh handsOn again:Bool} {X:World→Array Value→Prop}
  (own:ownKnob C.prog.godebug=none) (started:os.Started) (noInit:C.prog.inits.idxOf? f=none) (hfn:C.prog.funcs[f]? =some fn)
  (witness: ∃(w:World) (tape:Tape) (i:Input),w.os=os∧(w.forCall tape i).Shaped C.prog∧i.vars= []∧Input.okWide C.prog (w.forCall tape i) .any w.heap.size f i∧
   ((s.pre enc C.prog fn conds apart (w.forCall tape i).memory i.args∧X (w.forCall tape i).memory i.args)∧sizedMet enc C.prog fn (OpenSpec.ofChange s) apart (w.forCall tape i).memory i.args)∧a.holds C.prog (lone (Frame.enter C.prog f i.args .normal) [] (w.forCall tape i)))
  (contract: ∀(W:World) (base:Nat) (args:Array Value) (ds gs:List (DataW H)) (before:List MemPlace),
   (∀(j:Nat) t v,fn.params[j]? =some t→args[j]? =some v→Value.okWide C.prog W .any base t v)→
   DataW.Whole enc C.prog fn.params.toList s.vars apart W args.toList ds gs before→
   (DataW.weightsEach C.prog (fn.params.toList++s.plain.varTypes C.prog) (ds++gs)).all (· ≤reachBytes)=true→
   W.ShapedOpen C.prog→(∃W0:World,W0.heap=W.heap∧X W0 args)→
   Calls C.prog f args W fun e W'=> ∃v,e= .returned v∧s.post enc C.prog fn apart fresh handsOn again W args v W'):
  ReturnsInHanded a C os f .any (fun w args=>(s.pre enc C.prog fn conds apart w args∧X w args)∧sizedMet enc C.prog fn (OpenSpec.ofChange s) apart w args) (s.post enc C.prog fn apart fresh handsOn again):=by
 refine returnsInHanded_of_calls own started noInit witness ?_
 intro w tape i _ hsh _ hok hpre _
 obtain⟨_,_,_,fn',hfn',_,_,_,_,hval⟩:=hok
 have e:fn'=fn:=Option.some.inj (hfn'.symm.trans hfn)
 subst e
 obtain⟨⟨⟨ds,gs,before,hw,_⟩,hx⟩,hz⟩:=hpre
 have hw':=DataW.Whole.of_heap (w':=w.forCall tape i) (by rfl) hw
 refine(contract (w.forCall tape i) w.heap.size i.args ds gs before hval hw' (hz.weights hw) hsh ⟨_,by rfl,hx⟩).mono fun e W' ⟨v,he,hp⟩=>?_
 subst he
 exact ChangeSpec.post_blind hp
theorem shaped0 (os:Os) (args:Array Value):((World.laidAll Tryz.prog os laidL).forCall (fun _ _=>0) ⟨#[],args,[]⟩).Shaped Tryz.prog:=World.shaped_of_ZipB (by kernel_rfl) (by kernel_rfl)
theorem laid0 (os:Os) (args:Array Value):laidMetH Tryz.prog laidL ((World.laidAll Tryz.prog os laidL).forCall (fun _ _=>0) ⟨#[],args,[]⟩).memory:=by
 rw[MakeChecks.laidMetH_plain _ _ _ (by kernel_rfl)]
 exact laidMet_laidAll _ (by kernel_rfl) (by kernel_rfl)
theorem tab_of_laid {W:World} (h: ∃W0:World,W0.heap=W.heap∧laidMetH Tryz.prog laidL W0):TabW W:=by
 obtain⟨W0,hh,h⟩:=h
 rw[MakeChecks.laidMetH_plain _ _ _ (by kernel_rfl)]at h
 obtain⟨ps,⟨_,_,_,_,_,_,_,_,_,_,⟨_,_,_,_,_,_,_,_,_,_,⟨g,t,cs,fuel,p,q,hg,hty,hvar,hd,_,_⟩,_⟩,_⟩,_⟩:=h
 obtain rfl:(5:Nat)=g:=Option.some.inj (tab_named.symm.trans hg)
 obtain rfl:(342:Nat)=t:=Option.some.inj ((show(Tryz.prog.globals[(5:Nat)]?).map (·.type)=some (342:Nat) by kernel_rfl).symm.trans hty)
 have e:=Lib.cells_of_tab (zs:=Lib.pow10Tab) (k:=.u64) Tryz.underlying342 Tryz.underlying283 (by kernel_rfl) (by kernel_rfl) hd
 refine TabW.of_block (w:=W0) ?_ (by rw[hh])
 unfold TabW Lib.TabIs
 rw[hvar,←e]
theorem row_err (u:TypeId) (h:Tryz.prog.typeName? 3 u=some "*errors.errorString"):u=338:=
 have hs: "*" ++ "errors.errorString" = "*errors.errorString" :=by decide
 typeName_ptr_named (nm:= "errors.errorString") (by rw[hs];kernel_rfl) (by kernel_rfl) (by decide) u (by rw[hs];exact h)
theorem err_of_laid {W:World} (h: ∃W0:World,W0.heap=W.heap∧laidMetH Tryz.prog laidL W0):ErrC W:=by
 obtain⟨W0,hh,h⟩:=h
 rw[MakeChecks.laidMetH_plain _ _ _ (by kernel_rfl)]at h
 have h5:=h.tail.tail.tail.tail
 obtain⟨a1,s1,v1,_⟩:=laid_sentinel (g:=4) (ti:=252) (tp:=338) (te:=340) (ts:=9) h5 (by kernel_rfl) (by kernel_rfl) Tryz.underlying252 row_err Tryz.underlying338 Tryz.underlying340 rfl rfl Tryz.underlying9 (by kernel_rfl) (by kernel_rfl)
 obtain⟨a2,s2,v2,_⟩:=laid_sentinel (g:=3) (ti:=252) (tp:=338) (te:=340) (ts:=9) h5.tail (by kernel_rfl) (by kernel_rfl) Tryz.underlying252 row_err Tryz.underlying338 Tryz.underlying340 rfl rfl Tryz.underlying9 (by kernel_rfl) (by kernel_rfl)
 have c1:=World.var?_cell (g:=4) (by kernel_rfl) v1 0
 have c2:=World.var?_cell (g:=3) (by kernel_rfl) v2 0
 have key: ∀(g:Nat),W.cell? ⟨g,0,none⟩=W0.cell? ⟨g,0,none⟩:=fun g=>by unfold World.cell?;rw[hh]
 exact⟨⟨_,(key _).trans c2,.inr ⟨_,_,rfl⟩⟩,_,(key _).trans c1,.inr ⟨_,_,rfl⟩⟩
theorem max_of_shape {W:World} (h:W.ShapedOpen Tryz.prog):MaxC W:=
 cell_of_shapedOpen_int (zero:= #[.int .i64 0]) (t:=3) h (of_decide_eq_true (by kernel_rfl)) (by kernel_rfl) rfl (by kernel_rfl) (by kernel_rfl) Tryz.underlying3
end Go.Proofs.YtajbmjpodeilpaaGreatDoor
namespace Go.Proofs.YtajbmjpodeilpaaGreatDoor
open Go.RowKit
def StepIn (O:Nat→Prop) (w:World) (v:Value) (ss:List EStep):Prop:=
 ∃A c,v= .slice A ss.length c∧ss.length≤c∧(A=none→c=0)∧∀(i:Nat) (s:EStep),ss[i]? =some s→∃g o ul uh,A=some ⟨g,o,none⟩∧g<w.heap.size∧O g∧w.cell? ⟨g,o+i*4,none⟩=some (.bool s.del)∧w.cell? ⟨g,o+i*4+1,none⟩=some (.int .i64 s.id)∧w.cell? ⟨g,o+i*4+2,none⟩=some ul∧w.cell? ⟨g,o+i*4+3,none⟩=some uh∧IntsIn O w ul s.lits∧IntsIn O w uh s.hints
theorem StepIn.kept {O O':Nat→Prop} {w w':World} {v:Value} {ss:List EStep} (h:StepIn O w v ss) (k:Kept O' w w') (hO: ∀g,O g→¬O' g):StepIn O w' v ss:=by
 obtain⟨A,c,hv,hc,hn,hx⟩:=h
 refine⟨A,c,hv,hc,hn,fun i s hi=>?_⟩
 obtain⟨g,o,ul,uh,h1,h2,h3,c0,c1,c2,c3,hl,hh⟩:=hx i s hi
 exact⟨g,o,ul,uh,h1,Nat.lt_of_lt_of_le h2 k.size,h3,(k.cell (p:=⟨g,o+i*4,none⟩) h2 (hO g h3)).trans c0,(k.cell (p:=⟨g,o+i*4+1,none⟩) h2 (hO g h3)).trans c1,(k.cell (p:=⟨g,o+i*4+2,none⟩) h2 (hO g h3)).trans c2,(k.cell (p:=⟨g,o+i*4+3,none⟩) h2 (hO g h3)).trans c3,hl.kept k hO,hh.kept k hO⟩
theorem StepIn.below {O:Nat→Prop} {w w':World} {v:Value} {ss:List EStep} (h:StepIn O w v ss) (k:Below w.heap.size w w'):StepIn O w' v ss:=
 h.kept (O':=fun _=>False) (Kept.of_below k) (fun _ _ h=>h)
theorem StepIn.mono {O O':Nat→Prop} {w:World} {v:Value} {ss:List EStep} (h:StepIn O w v ss) (hO: ∀g,O g→O' g):StepIn O' w v ss:=by
 obtain⟨A,c,hv,hc,hn,hx⟩:=h
 refine⟨A,c,hv,hc,hn,fun i s hi=>?_⟩
 obtain⟨g,o,ul,uh,h1,h2,h3,c0,c1,c2,c3,hl,hh⟩:=hx i s hi
 exact⟨g,o,ul,uh,h1,h2,hO g h3,c0,c1,c2,c3,hl.mono hO,hh.mono hO⟩
theorem StepIn.lt {O:Nat→Prop} {w:World} {v:Value} {ss:List EStep} (h:StepIn O w v ss):StepIn (fun g=>O g∧g<w.heap.size) w v ss:=by
 obtain⟨A,c,hv,hc,hn,hx⟩:=h
 refine⟨A,c,hv,hc,hn,fun i s hi=>?_⟩
 obtain⟨g,o,ul,uh,h1,h2,h3,c0,c1,c2,c3,hl,hh⟩:=hx i s hi
 exact⟨g,o,ul,uh,h1,h2,⟨h3,h2⟩,c0,c1,c2,c3,hl.lt,hh.lt⟩
theorem al_new (W:World) (cs:Array Value) (t:TypeId): ∃W',W.alloc (.cells cs t)=W'∧Below W.heap.size W W'∧W'.heap[W.heap.size]? =some (.cells cs t (0,0))∧W'.heap.size=W.heap.size+1:=
 ⟨_,rfl,mx_al _ _,World.alloc_heap_new _ _,by simp⟩
end Go.Proofs.YtajbmjpodeilpaaGreatDoor
namespace Go.Proofs.YtajbmjpodeilpaaGreatDoor
open Go.ChangeShapes Go.WideShapes Go.ChangeAt Go.RowKit
theorem RowAt.intsR {w:World} {v:Value} {xs:List Int} (h:RowAt .i64 w v xs):IntsIn (fun _=>True) w v xs∧∀x∈xs,-9223372036854775808≤x∧x≤9223372036854775807:=by
 obtain⟨A,c,hv,hc,_,hn,hw,hx⟩:=h
 refine⟨⟨A,c,hv,hc,hn,fun i x hi=>?_⟩,fun x hx=>?_⟩
 ·obtain⟨g,o,h1,h2,h3⟩:=hx i x hi
  exact⟨g,o,h1,h2,trivial,h3⟩
 ·have:=hw x hx
  simp only[Lit.wf,Bool.and_eq_true,decide_eq_true_eq]at this
  exact⟨this.1,this.2⟩
theorem RowsAt.clsI {w:World} {v:Value} {xss:List (List Int)} (h:RowsAt .i64 w v xss):ClsIn (fun _=>True) w v xss:=by
 obtain⟨A,c,hv,hc,_,hn,hx⟩:=h
 refine⟨A,c,hv,hc,hn,fun i xs hi=>?_⟩
 obtain⟨g,o,u,h1,h2,h3,h4⟩:=hx i xs hi
 exact⟨g,o,u,h1,h2,trivial,h3,h4.intsR.1⟩
theorem rows_of_trodI {P:Program} {H:Type} {enc:TypeId×Value→H} {W:World} {t e q:TypeId} {k:IntKind} {v:Value} {fuel:Nat} {x:DataW H×List MemPlace} (ht:P.underlying t=some (.slice e)) (he:P.underlying e=some (.slice q)) (hq:P.underlying q=some (.int k)) (ce:P.cellsOf e=1) (cq:P.cellsOf q=1)
  (hf:DataW.trod enc P W 0 (fun _=>true) true fuel t [v]=some x): ∃xss,RowsAt k W v xss:=by
 rcases Go.Deep.open_int_rows ht he hq ce cq hf with⟨hcs,_⟩|⟨a,len,cap,A,L,C,Z,hcs,_,hl,hm,_,hrow⟩
 ·obtain rfl:v= .slice none 0 0:=by simpa using hcs
  exact⟨[],none,0,rfl,Nat.le_refl _,Nat.zero_le _,fun _=>rfl,by simp⟩
 ·obtain rfl:v= .slice (some a) len cap:=by simpa using hcs
  refine⟨(List.range len).map fun r=>(Z r).take (L r),some a,cap,by simp,by simpa using hl,hm,(fun h=>by cases h),fun i xs hi=>?_⟩
  have hil:i<len:=by
   have:=(List.getElem?_eq_some_iff.1 hi).1
   simpa using this
  rw[List.getElem?_map,List.getElem?_range hil]at hi
  obtain rfl:=Option.some.inj hi
  obtain⟨h1,h2,h3,h4,h5,h6,h7⟩:=hrow i (by omega)
  obtain⟨g,o,rfl⟩:=add_form (hrow 0 (by omega)).1
  have hc:W.cell? ⟨g,o+i,none⟩=some (.slice (A i) (L i) (C i)):=by rw[←addr_add2];exact h1
  have htl:((Z i).take (L i)).length=L i:=by rw[List.length_take];omega
  refine⟨g,o,_,rfl,World.block_lt_of_cell? W _ hc,hc,A i,C i,by rw[htl],by rw[htl];exact h2,h3,h6,fun n hn=>h5 n (List.mem_of_mem_take hn),fun j x hj=>?_⟩
  change ((Z i).take (L i))[j]? =some x at hj
  have hjl:j<L i:=by
   have:=(List.getElem?_eq_some_iff.1 hj).1
   omega
  rw[List.getElem?_take_of_lt hjl]at hj
  cases hA:A i with
  | none=>have:=h6 hA;omega
  | some a'=>
   have hx:=(h7 a' hA).2 j (by omega)
   rw[List.getD_eq_getElem?_getD,hj]at hx
   obtain⟨g',o',rfl⟩:=add_form ((h7 a' hA).2 0 (by omega))
   have hc':W.cell? ⟨g',o'+j,none⟩=some (.int k x):=by rw[←addr_add2];exact hx
   exact⟨g',o',rfl,World.block_lt_of_cell? W _ hc',hc'⟩
theorem open_formula {P:Program} {H:Type} {enc:TypeId×Value→H} {W:World} {base:Nat} {t e q:TypeId} {f0 f1:Field} {v:Value} {d:DataW H} {p:List MemPlace} (ht:P.underlying t=some (.struct #[f0,f1])) (ct:P.cellsOf t=2) (o0:f0.offset=0) (o1:f1.offset=1) (c0:P.cellsOf f0.type=1) (c1:P.cellsOf f1.type=1)
  (u0:P.underlying f0.type=some (.int .i64)) (u1:P.underlying f1.type=some (.slice e)) (he:P.underlying e=some (.slice q)) (hq:P.underlying q=some (.int .i64)) (ce:P.cellsOf e=1) (cq:P.cellsOf q=1)
  (hval:Value.okWide P W .any base t v) (h:DataW.Trod enc P W 0 (fun _=>true) true t v d p): ∃(vn:Int) (u:Value) (cs:List (List Int)),v= .agg #[.int .i64 vn,u]∧ClsIn (fun _=>True) W u cs:=by
 obtain⟨cells,rfl,hsz⟩:=okWide_struct ht hval
 obtain⟨fuel,hf⟩:=h
 obtain⟨y0,y1,n,_,hlen,g0,g1⟩:=trod_struct2 ht hf
 obtain⟨l⟩:=cells
 match l,hsz with
 | [a,u],_=>
  simp only[Value.cells]at g0 g1
  rw[o0,c0]at g0
  rw[o1,c1]at g1
  obtain⟨vn,hvn,_⟩:=DataW.trod_int u0 g0
  obtain rfl:a= .int .i64 vn:=by simpa using hvn
  obtain⟨xss,hx⟩:=rows_of_trodI u1 he hq ce cq (v:=u) (by simpa using g1)
  exact⟨vn,u,xss,rfl,hx.clsI⟩
 | [],hs=>rw[ct]at hs;simp at hs
 | [_],hs=>rw[ct]at hs;simp at hs
 | _::_::_::_,hs=>rw[ct]at hs;simp at hs
end Go.Proofs.YtajbmjpodeilpaaGreatDoor
