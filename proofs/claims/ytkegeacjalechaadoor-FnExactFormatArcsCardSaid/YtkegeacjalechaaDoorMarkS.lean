/- The laws' helpers mark over structures. -/
import Derived.Test.YtkegeacjalechaaDoorMarkF
set_option linter.unusedSimpArgs false
set_option linter.unusedVariables false
namespace Go.Proofs.YtkegeacjalechaaDoor
open Go.ChangeShapes Go.WideShapes Go.ChangeAt Go.RowKit
end Go.Proofs.YtkegeacjalechaaDoor
