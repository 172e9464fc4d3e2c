/- What the rows of all laws of this seat ask of the program alone. No condition. -/
import Derived.Test.YtcpjhpjlcgcigaaGreatDoorOpens
import Derived.Test.YtcpjhpjlcgcigaaGreatDoorRows
set_option linter.unusedSimpArgs false
set_option linter.unusedVariables false
namespace Go.Proofs.YtcpjhpjlcgcigaaGreatDoor
open Go.ChangeShapes Go.WideShapes Go.ChangeAt Go.RowKit

theorem and_tt {a b : Bool} (h : a = true) (h1 : b = true) : (a && b) = true := by rw [h, h1]; rfl
theorem glob1 : (laidOutB Tryz.checked.prog) = true := by kernel_rfl
theorem glob2 : (mapsRowed Tryz.checked.prog) = true := by kernel_rfl
theorem glob6 : ((Tryz.checked.prog.stops == [])) = true := by kernel_rfl
theorem glob8 : ((Tryz.checked.prog.stopKnobs == [])) = true := by kernel_rfl
theorem glob22 : ((Rows.fnExactParseSTGRow.plainKeys == Tryz.checked.prog.plainKeys)) = true := by kernel_rfl
theorem glob24 : (Tryz.checked.prog.stopsHeard) = true := by kernel_rfl
theorem glob25 : (Tryz.checked.prog.mayEnter) = true := by kernel_rfl
theorem glob26 : ((Rows.fnExactParseSTGRow.lifted == Tryz.checked.prog.liftsFinal)) = true := by kernel_rfl
theorem glob27 : ((Tryz.checked.prog.make == some Rows.fnExactParseSTGRow.make)) = true := by kernel_rfl
end Go.Proofs.YtcpjhpjlcgcigaaGreatDoor
