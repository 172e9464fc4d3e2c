/- slices.Clone, slices.DeleteFunc. No condition. -/
import Derived.Test.YtjfipianehabgaaIx
import Derived.Test.YtjfipianehabgaaMv
set_option linter.unusedSimpArgs false
set_option linter.unusedVariables false
namespace Go.Proofs.Ytjfipianehabgaa
open Go.ChangeShapes Go.WideShapes Go.ChangeAt Go.RowKit

theorem Clone_Lab_f (l : List Lab) (hz : l.length ≤ 4294967296) : Fn Try.prog 142 [.sh 2 (l.map dLab)] (.own 0) [.arr 142 2 (l.map dLab) true] := by
  refine Fn_of Try.func142 rfl (by kernel_rfl) rfl rfl ?_
  intro w0 A hin
  have hfl : ∀ l : List Lab, Flat (l.map dLab) := fun l => flat_map (by simp [dLab, isLit])
  have hl := len_dLab l
  repeat' (first | (refine R_eqNil tabOk rfl rfl rfl rfl fun b hb => ?_) | refine go1 ?_ | refine R_append tabOk rfl rfl rfl rfl rfl rfl rfl rfl rfl rfl rfl (hfl _) (by simp only [List.length_nil]; omega) ?_ | ((first | refine R_cond rfl (fun hq => ?_) fun hq => ?_ | refine R_guardT rfl rfl rfl (fun hq => ?_) fun hq => ?_ | refine R_guardF rfl rfl rfl (fun hq => ?_) fun hq => ?_ | refine D_guardT rfl rfl rfl (fun hq => ?_) fun hq => ?_ | refine D_guardF rfl rfl rfl (fun hq => ?_) fun hq => ?_) <;> (try rw [hq]) <;> first | have hp := of_decide_eq_true hq | have hp := of_decide_eq_false hq | have hp := of_decide_eq_false (not_t hq) | have hp := of_decide_eq_true (not_f hq) | have hp := hq))
  · exact ret_nil rfl (hb (by assumption))
  · exact ret_own rfl rfl rfl
end Go.Proofs.Ytjfipianehabgaa
