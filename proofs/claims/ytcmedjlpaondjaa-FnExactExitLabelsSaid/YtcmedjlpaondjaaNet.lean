/- Nets and markings: the contracts, for the engine; search in slices. No condition. -/
import Derived.Test.YtcmedjlpaondjaaNum
import Derived.Test.YtcmedjlpaondjaaDs
import Derived.Test.YtcmedjlpaondjaaBits
set_option linter.unusedSimpArgs false
set_option linter.unusedVariables false
namespace Go.Proofs.Ytcmedjlpaondjaa
open Go.ChangeShapes Go.WideShapes Go.ChangeAt Go.RowKit

end Go.Proofs.Ytcmedjlpaondjaa
