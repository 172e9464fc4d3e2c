/- Nets and STGs that are handed back if they are right. No condition. -/
import Derived.Test.YtcbfpeplcbgpjaaRet
import Derived.Test.YtcbfpeplcbgpjaaNetX
import Derived.Test.YtcbfpeplcbgpjaaNet
import Derived.Deep.MidRow
import Derived.Laws.ResultCell
set_option linter.unusedSimpArgs false
set_option linter.unusedVariables false
namespace Go.Proofs.Ytcbfpeplcbgpjaa
open Go.ChangeShapes Go.WideShapes Go.ChangeAt Go.RowKit

theorem loadVar_tab {P : Program} {tab : Nat → Option TI} (hT : TabOk P tab) {T : TypeId} {k : TK} {size bytes : Nat} {zero : List Value} (ht : tab T = some ⟨k, true, size, bytes, zero⟩) (w : World) (b : Nat) (cs : List Value) (hs : cs.length = size) (hc : w.rangeAt b 0 cs) : (loadVar T ⟨b, 0, none⟩).run P w = .ok (.agg cs.toArray) w := by
  obtain ⟨inf, td, z, h1, h2, h3, h4, h5, h6, _⟩ := hT.get ht
  refine run_loadVar_mid w b 0 T cs td hc h2 ?_ (by rw [h1, hs]; simp [h6])
  clear h1 h2 h3 h4 hc
  cases td <;> first | rfl | (simp [aggDesc] at h5)

end Go.Proofs.Ytcbfpeplcbgpjaa
