/- Contracts of the library laid at this program. No condition. -/
import Derived.Shelf.Small.Wraps
import Derived.Test.YtcpjhpjlcgcigaaGreatDoorProg
namespace Go.Proofs.YtcpjhpjlcgcigaaGreatDoor
open Go.Shelf
def layCut_ren : Go.Shelf.Ren := ⟨fun | 103 => 15 | 210 => 38 | 206 => 62 | n => n, fun | 9 => 9 | 4 => 4 | 24 => 45 | 3 => 3 | n => n, fun | n => n⟩
theorem layCut : Go.Proofs.Lays.n103 Tryz.prog layCut_ren := {
  mixed := by kernel_rfl
  f103 := Tryz.func15.trans (congrArg some (by kernel_rfl))
  f206 := Tryz.func62.trans (congrArg some (by kernel_rfl))
  f210 := Tryz.func38.trans (congrArg some (by kernel_rfl))
  t3 := Tryz.underlying3
  a3 := Tryz.isAgg3
  z3 := Tryz.sizeOf3
  v3 := Tryz.zeroValue3
  t4 := Tryz.underlying4
  a4 := Tryz.isAgg4
  z4 := Tryz.sizeOf4
  v4 := Tryz.zeroValue4
  t9 := Tryz.underlying9
  a9 := Tryz.isAgg9
  z9 := Tryz.sizeOf9
  v9 := Tryz.zeroValue9
  t24 := Tryz.underlying45
  a24 := Tryz.isAgg45
  z24 := Tryz.sizeOf45
  v24 := Tryz.zeroValue45 }
end Go.Proofs.YtcpjhpjlcgcigaaGreatDoor
