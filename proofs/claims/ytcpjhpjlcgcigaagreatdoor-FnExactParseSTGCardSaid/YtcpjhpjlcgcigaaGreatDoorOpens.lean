/- Arguments of the program's types, opened. No condition. -/
import Derived.Test.YtcpjhpjlcgcigaaGreatDoorOpen
set_option linter.unusedSimpArgs false
set_option linter.unusedVariables false
namespace Go.Proofs.YtcpjhpjlcgcigaaGreatDoor
open Go.ChangeShapes Go.WideShapes Go.ChangeAt Go.RowKit
end Go.Proofs.YtcpjhpjlcgcigaaGreatDoor
