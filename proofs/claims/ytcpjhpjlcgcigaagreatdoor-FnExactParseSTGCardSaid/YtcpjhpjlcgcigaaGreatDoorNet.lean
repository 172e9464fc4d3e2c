/- Nets and markings: the contracts, for the engine; search in slices. No condition. -/
import Derived.Test.YtcpjhpjlcgcigaaGreatDoorNum
import Derived.Test.YtcpjhpjlcgcigaaGreatDoorDs
import Derived.Test.YtcpjhpjlcgcigaaGreatDoorBits
set_option linter.unusedSimpArgs false
set_option linter.unusedVariables false
set_option maxHeartbeats 2000000
namespace Go.Proofs.YtcpjhpjlcgcigaaGreatDoor
open Go.ChangeShapes Go.WideShapes Go.ChangeAt Go.RowKit

theorem l1Good_f (x : NetD) : Fn Tryz.prog 31 [.agg (dNetD x)] (.lit (.bool (goodNet x))) [] := by
  refine Fn.of_lit trivial (plain_of Tryz.func31 (by kernel_rfl) (by kernel_rfl)) fun w us h => ?_
  obtain ⟨u, rfl, h1⟩ := vxs_one h
  obtain ⟨us, rfl, h2⟩ := h1.agg_inv
  have hR := br_NetD.of_vxs rfl h2
  obtain ⟨a, c, rfl⟩ := shape_NetD hR
  exact l1Good_c w a c x hR
theorem IsValidNet_f (x : NetD) : Fn Tryz.prog 87 [.agg (dNetD x)] (.lit (.bool (goodNet x))) [] := by
  refine Fn.of_lit trivial (plain_of Tryz.func87 (by kernel_rfl) (by kernel_rfl)) fun w us h => ?_
  obtain ⟨u, rfl, h1⟩ := vxs_one h
  obtain ⟨us, rfl, h2⟩ := h1.agg_inv
  have hR := br_NetD.of_vxs rfl h2
  obtain ⟨a, c, rfl⟩ := shape_NetD hR
  exact IsValidNet_c w a c x hR
theorem l1Mark_f (x : NetD) (s : ByteArray) (hs : s.size ≤ 1048576) : Fn Tryz.prog 33 [.agg (dNetD x), .lit (.string s)] (.lit (.bool (bitsB s x.places))) [] := by
  refine Fn.of_lit trivial (plain_of Tryz.func33 (by kernel_rfl) (by kernel_rfl)) fun w us h => ?_
  obtain ⟨u, us', rfl, h1, h2⟩ := vxs_cons h
  obtain ⟨us, rfl, h3⟩ := h1.agg_inv
  obtain ⟨v, rfl, h4⟩ := vxs_one h2
  obtain ⟨rfl, _⟩ := h4.lit_inv
  have hR := br_NetD.of_vxs rfl h3
  obtain ⟨a, c, rfl⟩ := shape_NetD hR
  exact l1Mark_c w a c x s hs
theorem isBits_f (s : ByteArray) (n : Int) (hs : s.size ≤ 1048576) : Fn Tryz.prog 88 [.lit (.string s), .lit (.int .i64 n)] (.lit (.bool (bitsB s n))) [] := by
  refine Fn.of_lit trivial (plain_of Tryz.func88 (by kernel_rfl) (by kernel_rfl)) fun w us h => ?_
  obtain ⟨u, us', rfl, h1, h2⟩ := vxs_cons h
  obtain ⟨rfl, _⟩ := h1.lit_inv
  obtain ⟨v, rfl, h4⟩ := vxs_one h2
  obtain ⟨rfl, _⟩ := h4.lit_inv
  exact isBits_c w s n hs
theorem IsValidMarking_f (x : NetD) (s : ByteArray) (hs : s.size ≤ 1048576) : Fn Tryz.prog 66 [.agg (dNetD x), .lit (.string s)] (.lit (.bool (goodMark x s))) [] := by
  refine Fn_of Tryz.func66 rfl (by kernel_rfl) rfl rfl ?_
  intro w0 A hin
  repeat' (first | refine goZ ?_ | refine R_callZ rfl (IsValidNet_f _) rfl rfl rfl ?_ | refine R_callZ rfl (isBits_f _ _ hs) rfl rfl rfl ?_ | refine R_callvZ rfl (IsValidNet_f _) rfl rfl rfl rfl ?_ | refine R_callvZ rfl (isBits_f _ _ hs) rfl rfl rfl rfl ?_ | refine D_callZ rfl (IsValidNet_f _) rfl rfl rfl ?_ | refine D_callZ rfl (isBits_f _ _ hs) rfl rfl rfl ?_ | ((first | refine R_cond rfl (fun hq => ?_) fun hq => ?_ | refine R_guardT rfl rfl rfl (fun hq => ?_) fun hq => ?_ | refine R_guardF rfl rfl rfl (fun hq => ?_) fun hq => ?_ | refine D_guardT rfl rfl rfl (fun hq => ?_) fun hq => ?_ | refine D_guardF rfl rfl rfl (fun hq => ?_) fun hq => ?_) <;> (try rw [hq]) <;> first | have hp := of_decide_eq_true hq | have hp := of_decide_eq_false hq | have hp := of_decide_eq_false (not_t hq) | have hp := of_decide_eq_true (not_f hq) | have hp := hq))
  · exact ret_bool' rfl (by simp [goodMark, hq])
  · exact ret_bool' rfl (by simp [goodMark, hq])
end Go.Proofs.YtcpjhpjlcgcigaaGreatDoor
