/- Structs of this program compared. No condition. -/
import Derived.Test.YtcpjhpjlcgcigaaGreatDoorAbsU
import Derived.Test.YtcpjhpjlcgcigaaGreatDoorDs
set_option linter.unusedSimpArgs false
set_option linter.unusedVariables false
namespace Go.Proofs.YtcpjhpjlcgcigaaGreatDoor
open Go.ChangeShapes Go.WideShapes Go.ChangeAt Go.RowKit

theorem eq_Lab (x y : Lab) : EqFn Tryz.prog 49 [.int .i64 x.sig, .bool x.up] [.int .i64 y.sig, .bool y.up] (decide (x = y)) := by
  refine ⟨by kernel_rfl, fun w => ?_⟩
  have u3 := Tryz.underlying3
  have a3 := Tryz.isAgg3
  have z3 := Tryz.sizeOf3
  have u4 := Tryz.underlying4
  have a4 := Tryz.isAgg4
  have z4 := Tryz.sizeOf4
  rw [show (10000 : Nat) = 9999 + 1 from rfl, run_equalIn_agg w 9999 49 _ _ (by kernel_rfl) (by kernel_rfl)]
  simp only [Program.fieldsOf, Tryz.underlying49]
  go_simp
  obtain ⟨a, b⟩ := x
  obtain ⟨c, d⟩ := y
  by_cases h1 : a = c <;> by_cases h2 : b = d <;> simp [h1, h2]
end Go.Proofs.YtcpjhpjlcgcigaaGreatDoor
