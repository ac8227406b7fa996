/- More of the library's contracts, at this program's numbers (written by the kit's lay-plain; its remarks struck); each bears its own conditions. -/
import Derived.Shelf.SlIterI.Nil
import Derived.Shelf.SortM.Plain
import Derived.Shelf.SortM.SortNone
import Derived.Shelf.SlGeneric
import Derived.Ground.GgzProg
import Derived.Ground.SlgmProg
import Derived.Test.YtkfgplfllddhnaaGreatDoorProg
namespace Go.Proofs
open Go.Shelf
def Tryz.keysA_ren : Go.Shelf.Ren := ⟨fun | 7 => 106 | 10 => 131 | n => n, fun | 23 => 59 | 26 => 3 | 3 => 30 | 28 => 117 | 0 => 0 | 27 => 116 | 33 => 80 | 4 => 4 | n => n, fun | n => n⟩
theorem Tryz.keysA : Go.Proofs.SlLaysZI.n7 Tryz.prog Tryz.keysA_ren := {
  mixed := by kernel_rfl
  f7 := ⟨Tryz.f106.name, by decide, Tryz.func106.trans (congrArg some (by kernel_rfl))⟩
  f10 := ⟨Tryz.f131.name, by decide, Tryz.func131.trans (congrArg some (by kernel_rfl))⟩
  t0 := Tryz.underlying0
  a0 := Tryz.isAgg0
  z0 := Tryz.sizeOf0
  v0 := Tryz.zeroValue0
  t4 := Tryz.underlying4
  a4 := Tryz.isAgg4
  z4 := Tryz.sizeOf4
  v4 := Tryz.zeroValue4
  t23 := Tryz.underlying59
  a23 := Tryz.isAgg59
  z23 := Tryz.sizeOf59
  v23 := Tryz.zeroValue59
  t26 := Tryz.underlying3
  a26 := Tryz.isAgg3
  z26 := Tryz.sizeOf3
  v26 := Tryz.zeroValue3
  t27 := Tryz.underlying116
  a27 := Tryz.isAgg116
  z27 := Tryz.sizeOf116
  v27 := Tryz.zeroValue116
  t28 := Tryz.underlying117
  a28 := Tryz.isAgg117
  z28 := Tryz.sizeOf117
  v28 := Tryz.zeroValue117
  t33 := Tryz.underlying80
  a33 := Tryz.isAgg80
  z33 := Tryz.sizeOf80
  v33 := Tryz.zeroValue80 }
def Tryz.sortedA_ren : Go.Shelf.Ren := ⟨fun | 6 => 105 | 8 => 129 | 9 => 130 | 11 => 158 | 13 => 118 | 12 => 159 | 23 => 153 | 24 => 154 | 14 => 177 | 15 => 178 | 16 => 179 | 17 => 180 | 18 => 181 | 19 => 182 | 20 => 126 | 21 => 183 | 22 => 184 | 25 => 194 | 26 => 173 | 27 => 174 | 28 => 195 | 29 => 196 | 30 => 155 | 31 => 200 | n => n, fun | 26 => 3 | 28 => 117 | 24 => 48 | 0 => 0 | 3 => 3 | 37 => 194 | 48 => 222 | 50 => 224 | 4 => 4 | 40 => 216 | 39 => 215 | 45 => 139 | 5 => 5 | 9 => 9 | 51 => 245 | 55 => 249 | 57 => 264 | 58 => 265 | 33 => 80 | n => n, fun | n => n⟩
theorem Tryz.sortedA : Go.Proofs.SlLaysZI.n6 Tryz.prog Tryz.sortedA_ren := {
  mixed := by kernel_rfl
  f6 := ⟨Tryz.f105.name, by decide, Tryz.func105.trans (congrArg some (by kernel_rfl))⟩
  f8 := ⟨Tryz.f129.name, by decide, Tryz.func129.trans (congrArg some (by kernel_rfl))⟩
  f11 := ⟨Tryz.f158.name, by decide, Tryz.func158.trans (congrArg some (by kernel_rfl))⟩
  t0 := Tryz.underlying0
  a0 := Tryz.isAgg0
  z0 := Tryz.sizeOf0
  v0 := Tryz.zeroValue0
  t24 := Tryz.underlying48
  a24 := Tryz.isAgg48
  z24 := Tryz.sizeOf48
  v24 := Tryz.zeroValue48
  t26 := Tryz.underlying3
  a26 := Tryz.isAgg3
  z26 := Tryz.sizeOf3
  v26 := Tryz.zeroValue3
  t28 := Tryz.underlying117
  a28 := Tryz.isAgg117
  z28 := Tryz.sizeOf117
  v28 := Tryz.zeroValue117
  i26 := by kernel_rfl }
end Go.Proofs
