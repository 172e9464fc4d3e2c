/- Nets turned round, nets laid beside each other: what the reference's and the program's functions hand back. No condition. -/
import Derived.Test.YtodjjabmaleggaaIf
import Derived.Test.YtodjjabmaleggaaAbsY
import Derived.Test.YtodjjabmaleggaaDel
import Derived.Test.YtodjjabmaleggaaNetX
import Derived.Test.YtodjjabmaleggaaNet
import Derived.Test.YtodjjabmaleggaaNum
import Derived.Test.YtodjjabmaleggaaMarkNet
set_option linter.unusedSimpArgs false
set_option linter.unusedVariables false
namespace Go.Proofs.Ytodjjabmaleggaa
open Go.ChangeShapes Go.WideShapes Go.ChangeAt Go.RowKit

def revTr (t : Tr) : Tr := ⟨t.post, t.pre⟩
def revN (c : NetD) : NetD := ⟨c.places, c.trs.map revTr⟩
/-- A net that is handed back: the empty one if it is none. -/
noncomputable def revR (c : NetD) : NetD := if goodNet c && goodNet (revN c) then revN c else ⟨0, []⟩

end Go.Proofs.Ytodjjabmaleggaa
