/- The laws' helpers mark and held over slices whose elements are plain. -/
import Derived.Test.YtkegeacjalechaaDoorMarkT
set_option linter.unusedSimpArgs false
set_option linter.unusedVariables false
namespace Go.Proofs.YtkegeacjalechaaDoor
open Go.ChangeShapes Go.WideShapes Go.ChangeAt Go.RowKit
end Go.Proofs.YtkegeacjalechaaDoor
