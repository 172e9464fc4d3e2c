/- The laws' helpers mark over structures. -/
import Derived.Test.YtcmedjlpaondjaaMarkF
set_option linter.unusedSimpArgs false
set_option linter.unusedVariables false
namespace Go.Proofs.Ytcmedjlpaondjaa
open Go.ChangeShapes Go.WideShapes Go.ChangeAt Go.RowKit
end Go.Proofs.Ytcmedjlpaondjaa
