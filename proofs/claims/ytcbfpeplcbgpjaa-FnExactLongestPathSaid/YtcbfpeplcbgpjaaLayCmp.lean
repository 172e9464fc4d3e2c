/- Contracts of the library laid at this program. No condition. -/
import Derived.Shelf.Slices.CompactI
import Derived.Test.YtcbfpeplcbgpjaaProg
namespace Go.Proofs.Ytcbfpeplcbgpjaa
open Go.Shelf
def layCmp_ren : Go.Shelf.Ren := ⟨fun | 20 => 181 | n => n, fun | 22 => 78 | 3 => 3 | 4 => 4 | 0 => 0 | n => n, fun | n => n⟩
theorem layCmp : Go.Proofs.Lays2.n20 Try.prog layCmp_ren := {
  mixed := by kernel_rfl
  f20 := Try.func181.trans (congrArg some (by kernel_rfl))
  t0 := Try.underlying0
  a0 := Try.isAgg0
  z0 := Try.sizeOf0
  v0 := Try.zeroValue0
  t3 := Try.underlying3
  a3 := Try.isAgg3
  z3 := Try.sizeOf3
  v3 := Try.zeroValue3
  t4 := Try.underlying4
  a4 := Try.isAgg4
  z4 := Try.sizeOf4
  v4 := Try.zeroValue4
  t22 := Try.underlying78
  a22 := Try.isAgg78
  z22 := Try.sizeOf78
  v22 := Try.zeroValue78
  i3 := by kernel_rfl }
end Go.Proofs.Ytcbfpeplcbgpjaa
