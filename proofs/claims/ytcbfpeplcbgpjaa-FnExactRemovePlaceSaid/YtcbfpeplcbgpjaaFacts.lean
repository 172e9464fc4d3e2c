/- What the rows of all laws of this seat ask of the program alone. No condition. -/
import Derived.Test.YtcbfpeplcbgpjaaOpens
import Derived.Test.YtcbfpeplcbgpjaaRows
set_option linter.unusedSimpArgs false
set_option linter.unusedVariables false
namespace Go.Proofs.Ytcbfpeplcbgpjaa
open Go.ChangeShapes Go.WideShapes Go.ChangeAt Go.RowKit

theorem and_tt {a b : Bool} (h : a = true) (h1 : b = true) : (a && b) = true := by rw [h, h1]; rfl
theorem glob1 : (laidOutB Try.checked.prog) = true := by kernel_rfl
theorem glob2 : (mapsRowed Try.checked.prog) = true := by kernel_rfl
theorem glob6 : ((Try.checked.prog.stops == [])) = true := by kernel_rfl
theorem glob8 : ((Try.checked.prog.stopKnobs == [])) = true := by kernel_rfl
theorem glob22 : ((Rows.fnExactRemovePlaceRow.plainKeys == Try.checked.prog.plainKeys)) = true := by kernel_rfl
theorem glob24 : (Try.checked.prog.stopsHeard) = true := by kernel_rfl
theorem glob25 : (Try.checked.prog.mayEnter) = true := by kernel_rfl
theorem glob26 : ((Rows.fnExactRemovePlaceRow.lifted == Try.checked.prog.liftsFinal)) = true := by kernel_rfl
theorem glob27 : ((Try.checked.prog.make == some Rows.fnExactRemovePlaceRow.make)) = true := by kernel_rfl
end Go.Proofs.Ytcbfpeplcbgpjaa
