/- Contracts of the library laid at this program. No condition. -/
import Derived.Shelf.Slices.Reverse
import Derived.Test.YtcmedjlpaondjaaProg
namespace Go.Proofs.Ytcmedjlpaondjaa
open Go.Shelf
def layRev_ren : Go.Shelf.Ren := ⟨fun | 112 => 142 | n => n, fun | 28 => 41 | 3 => 3 | 4 => 4 | 0 => 0 | n => n, fun | n => n⟩
theorem layRev : Go.Proofs.Lays.n112 Try.prog layRev_ren := {
  mixed := by kernel_rfl
  f112 := Try.func142.trans (congrArg some (by kernel_rfl))
  t0 := Try.underlying0
  a0 := Try.isAgg0
  z0 := Try.sizeOf0
  v0 := Try.zeroValue0
  t3 := Try.underlying3
  a3 := Try.isAgg3
  z3 := Try.sizeOf3
  v3 := Try.zeroValue3
  t4 := Try.underlying4
  a4 := Try.isAgg4
  z4 := Try.sizeOf4
  v4 := Try.zeroValue4
  t28 := Try.underlying41
  a28 := Try.isAgg41
  z28 := Try.sizeOf41
  v28 := Try.zeroValue41 }
end Go.Proofs.Ytcmedjlpaondjaa
