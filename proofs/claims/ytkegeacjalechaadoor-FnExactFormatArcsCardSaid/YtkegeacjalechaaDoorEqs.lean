/- Structs of this program compared. No condition. -/
import Derived.Test.YtkegeacjalechaaDoorAbsU
import Derived.Test.YtkegeacjalechaaDoorDs
set_option linter.unusedSimpArgs false
set_option linter.unusedVariables false
namespace Go.Proofs.YtkegeacjalechaaDoor
open Go.ChangeShapes Go.WideShapes Go.ChangeAt Go.RowKit

theorem eq_Lab (x y : Lab) : EqFn Tryd.prog 66 [.int .i64 x.sig, .bool x.up] [.int .i64 y.sig, .bool y.up] (decide (x = y)) := by
  refine ⟨by kernel_rfl, fun w => ?_⟩
  have u3 := Tryd.underlying3
  have a3 := Tryd.isAgg3
  have z3 := Tryd.sizeOf3
  have u4 := Tryd.underlying4
  have a4 := Tryd.isAgg4
  have z4 := Tryd.sizeOf4
  rw [show (10000 : Nat) = 9999 + 1 from rfl, run_equalIn_agg w 9999 66 _ _ (by kernel_rfl) (by kernel_rfl)]
  simp only [Program.fieldsOf, Tryd.underlying66]
  go_simp
  obtain ⟨a, b⟩ := x
  obtain ⟨c, d⟩ := y
  by_cases h1 : a = c <;> by_cases h2 : b = d <;> simp [h1, h2]
end Go.Proofs.YtkegeacjalechaaDoor
