/- What the rows of all laws of this seat ask of the program alone. No condition. -/
import Derived.Test.YtkegeacjalechaaDoorOpens
import Derived.Test.YtkegeacjalechaaDoorRows
set_option linter.unusedSimpArgs false
set_option linter.unusedVariables false
namespace Go.Proofs.YtkegeacjalechaaDoor
open Go.ChangeShapes Go.WideShapes Go.ChangeAt Go.RowKit

theorem and_tt {a b : Bool} (h : a = true) (h1 : b = true) : (a && b) = true := by rw [h, h1]; rfl
theorem glob1 : (laidOutB Tryd.checked.prog) = true := by kernel_rfl
theorem glob2 : (mapsRowed Tryd.checked.prog) = true := by kernel_rfl
theorem glob6 : ((Tryd.checked.prog.stops == [])) = true := by kernel_rfl
theorem glob8 : ((Tryd.checked.prog.stopKnobs == [])) = true := by kernel_rfl
theorem glob22 : ((Rows.fnExactTransitionNameRow.plainKeys == Tryd.checked.prog.plainKeys)) = true := by kernel_rfl
theorem glob24 : (Tryd.checked.prog.stopsHeard) = true := by kernel_rfl
theorem glob25 : (Tryd.checked.prog.mayEnter) = true := by kernel_rfl
theorem glob26 : ((Rows.fnExactTransitionNameRow.lifted == Tryd.checked.prog.liftsFinal)) = true := by kernel_rfl
theorem glob27 : ((Tryd.checked.prog.make == some Rows.fnExactTransitionNameRow.make)) = true := by kernel_rfl
end Go.Proofs.YtkegeacjalechaaDoor
