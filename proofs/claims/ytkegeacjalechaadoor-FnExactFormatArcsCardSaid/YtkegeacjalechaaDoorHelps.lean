/- The laws' helpers sz, to, eq, mark, held, as contracts of the engine. -/
import Derived.Test.YtkegeacjalechaaDoorMarkV
import Derived.Test.YtkegeacjalechaaDoorSz
import Derived.Test.YtkegeacjalechaaDoorTo
import Derived.Test.YtkegeacjalechaaDoorEq
set_option linter.unusedSimpArgs false
set_option linter.unusedVariables false
namespace Go.Proofs.YtkegeacjalechaaDoor
open Go.ChangeShapes Go.WideShapes Go.ChangeAt Go.RowKit

theorem szIntS_f (x : (List Int)) (left : Int) (h0 : 0 ≤ left) (hl : left ≤ 1048576) : Fn Tryd.prog 82 [.sh 1 (ints x), .lit (.int .i64 left)] (.lit (.int .i64 (lessen left (szInts x)))) [] := by
  refine Fn.of_lit (litOk_i64.2 (by unfold lessen; split <;> omega)) (plain_of Tryd.func82 (by kernel_rfl) (by kernel_rfl)) fun w us h => ?_
  obtain ⟨u, us', rfl, h1, h2⟩ := vxs_cons h
  obtain ⟨u2, rfl, h3⟩ := vxs_one h2
  obtain ⟨rfl, _⟩ := h3.lit_inv
  have hR0 := ((br_sl br_int)).of_vxs (x := x) rfl (.cons h1 .nil)
  obtain ⟨a0, c0, e0⟩ : ∃ a c, u = .slice a x.length c := by obtain ⟨_, a, c, h, _⟩ := hR0; exact ⟨a, c, by simpa using h⟩
  subst e0
  exact szIntS_c w _ _ x left hR0 h0 hl

theorem toIntS_f (x : (List Int)) (hz : szInts x ≤ 1048576) : Fn Tryd.prog 84 [.sh 1 (ints x)] (.own 0) [.fr 1 (ints x)] := by
  refine Fn.of_fr1 (x := x) (br_sl br_int) rfl (plain_of Tryd.func84 (by kernel_rfl) (by kernel_rfl)) fun w us h => ?_
  obtain ⟨u, rfl, h1⟩ := vxs_one h
  have hR0 := ((br_sl br_int)).of_vxs (x := x) rfl (.cons h1 .nil)
  obtain ⟨a0, c0, e0⟩ : ∃ a c, u = .slice a x.length c := by obtain ⟨_, a, c, h, _⟩ := hR0; exact ⟨a, c, by simpa using h⟩
  subst e0
  exact (toIntS_c w _ _ x hR0 hz).mono fun e w' ⟨_, _, he, hf, hx⟩ => ⟨_, he, hf, hx⟩

theorem eqIntS_f (x : (List Int)) : Fn Tryd.prog 90 [.sh 1 (ints x), .sh 1 (ints x)] (.lit (.bool true)) [] := by
  refine Fn.of_lit trivial (plain_of Tryd.func90 (by kernel_rfl) (by kernel_rfl)) fun w us h => ?_
  obtain ⟨u, us', rfl, h1, h2⟩ := vxs_cons h
  obtain ⟨u2, rfl, h3⟩ := vxs_one h2
  have hR0 := ((br_sl br_int)).of_vxs (x := x) rfl (.cons h1 .nil)
  obtain ⟨a0, c0, e0⟩ : ∃ a c, u = .slice a x.length c := by obtain ⟨_, a, c, h, _⟩ := hR0; exact ⟨a, c, by simpa using h⟩
  subst e0
  have hR1 := ((br_sl br_int)).of_vxs (x := x) rfl (.cons h3 .nil)
  obtain ⟨a1, c1, e1⟩ : ∃ a c, u2 = .slice a x.length c := by obtain ⟨_, a, c, h, _⟩ := hR1; exact ⟨a, c, by simpa using h⟩
  subst e1
  exact eqIntS_c w _ _ _ _ x hR0 hR1

theorem szTransitionS_f (x : (List Tr)) (left : Int) (h0 : 0 ≤ left) (hl : left ≤ 1048576) : Fn Tryd.prog 42 [.sh 2 (x.map dTr), .lit (.int .i64 left)] (.lit (.int .i64 (lessen left (szTrs x)))) [] := by
  refine Fn.of_lit (litOk_i64.2 (by unfold lessen; split <;> omega)) (plain_of Tryd.func42 (by kernel_rfl) (by kernel_rfl)) fun w us h => ?_
  obtain ⟨u, us', rfl, h1, h2⟩ := vxs_cons h
  obtain ⟨u2, rfl, h3⟩ := vxs_one h2
  obtain ⟨rfl, _⟩ := h3.lit_inv
  have hR0 := ((br_sl br_Tr)).of_vxs (x := x) rfl (.cons h1 .nil)
  obtain ⟨a0, c0, e0⟩ : ∃ a c, u = .slice a x.length c := by obtain ⟨_, a, c, h, _⟩ := hR0; exact ⟨a, c, by simpa using h⟩
  subst e0
  exact szTransitionS_c w _ _ x left hR0 h0 hl

theorem toTransitionS_f (x : (List Tr)) (hz : szTrs x ≤ 1048576) : Fn Tryd.prog 50 [.sh 2 (x.map dTr)] (.own 0) [.fr 2 (x.map dTr)] := by
  refine Fn.of_fr1 (x := x) (br_sl br_Tr) rfl (plain_of Tryd.func50 (by kernel_rfl) (by kernel_rfl)) fun w us h => ?_
  obtain ⟨u, rfl, h1⟩ := vxs_one h
  have hR0 := ((br_sl br_Tr)).of_vxs (x := x) rfl (.cons h1 .nil)
  obtain ⟨a0, c0, e0⟩ : ∃ a c, u = .slice a x.length c := by obtain ⟨_, a, c, h, _⟩ := hR0; exact ⟨a, c, by simpa using h⟩
  subst e0
  exact (toTransitionS_c w _ _ x hR0 hz).mono fun e w' ⟨_, _, he, hf, hx⟩ => ⟨_, he, hf, hx⟩

theorem eqTransitionS_f (x : (List Tr)) : Fn Tryd.prog 61 [.sh 2 (x.map dTr), .sh 2 (x.map dTr)] (.lit (.bool true)) [] := by
  refine Fn.of_lit trivial (plain_of Tryd.func61 (by kernel_rfl) (by kernel_rfl)) fun w us h => ?_
  obtain ⟨u, us', rfl, h1, h2⟩ := vxs_cons h
  obtain ⟨u2, rfl, h3⟩ := vxs_one h2
  have hR0 := ((br_sl br_Tr)).of_vxs (x := x) rfl (.cons h1 .nil)
  obtain ⟨a0, c0, e0⟩ : ∃ a c, u = .slice a x.length c := by obtain ⟨_, a, c, h, _⟩ := hR0; exact ⟨a, c, by simpa using h⟩
  subst e0
  have hR1 := ((br_sl br_Tr)).of_vxs (x := x) rfl (.cons h3 .nil)
  obtain ⟨a1, c1, e1⟩ : ∃ a c, u2 = .slice a x.length c := by obtain ⟨_, a, c, h, _⟩ := hR1; exact ⟨a, c, by simpa using h⟩
  subst e1
  exact eqTransitionS_c w _ _ _ _ x hR0 hR1

theorem szSignalS_f (x : (List Sig)) (left : Int) (h0 : 0 ≤ left) (hl : left ≤ 1048576) : Fn Tryd.prog 19 [.sh 2 (x.map dSig), .lit (.int .i64 left)] (.lit (.int .i64 (lessen left (szSigs x)))) [] := by
  refine Fn.of_lit (litOk_i64.2 (by unfold lessen; split <;> omega)) (plain_of Tryd.func19 (by kernel_rfl) (by kernel_rfl)) fun w us h => ?_
  obtain ⟨u, us', rfl, h1, h2⟩ := vxs_cons h
  obtain ⟨u2, rfl, h3⟩ := vxs_one h2
  obtain ⟨rfl, _⟩ := h3.lit_inv
  have hR0 := ((br_sl br_Sig)).of_vxs (x := x) rfl (.cons h1 .nil)
  obtain ⟨a0, c0, e0⟩ : ∃ a c, u = .slice a x.length c := by obtain ⟨_, a, c, h, _⟩ := hR0; exact ⟨a, c, by simpa using h⟩
  subst e0
  exact szSignalS_c w _ _ x left hR0 h0 hl

theorem toSignalS_f (x : (List Sig)) (hz : szSigs x ≤ 1048576) : Fn Tryd.prog 25 [.sh 2 (x.map dSig)] (.own 0) [.fr 2 (x.map dSig)] := by
  refine Fn.of_fr1 (x := x) (br_sl br_Sig) rfl (plain_of Tryd.func25 (by kernel_rfl) (by kernel_rfl)) fun w us h => ?_
  obtain ⟨u, rfl, h1⟩ := vxs_one h
  have hR0 := ((br_sl br_Sig)).of_vxs (x := x) rfl (.cons h1 .nil)
  obtain ⟨a0, c0, e0⟩ : ∃ a c, u = .slice a x.length c := by obtain ⟨_, a, c, h, _⟩ := hR0; exact ⟨a, c, by simpa using h⟩
  subst e0
  exact (toSignalS_c w _ _ x hR0 hz).mono fun e w' ⟨_, _, he, hf, hx⟩ => ⟨_, he, hf, hx⟩

theorem eqSignalS_f (x : (List Sig)) : Fn Tryd.prog 31 [.sh 2 (x.map dSig), .sh 2 (x.map dSig)] (.lit (.bool true)) [] := by
  refine Fn.of_lit trivial (plain_of Tryd.func31 (by kernel_rfl) (by kernel_rfl)) fun w us h => ?_
  obtain ⟨u, us', rfl, h1, h2⟩ := vxs_cons h
  obtain ⟨u2, rfl, h3⟩ := vxs_one h2
  have hR0 := ((br_sl br_Sig)).of_vxs (x := x) rfl (.cons h1 .nil)
  obtain ⟨a0, c0, e0⟩ : ∃ a c, u = .slice a x.length c := by obtain ⟨_, a, c, h, _⟩ := hR0; exact ⟨a, c, by simpa using h⟩
  subst e0
  have hR1 := ((br_sl br_Sig)).of_vxs (x := x) rfl (.cons h3 .nil)
  obtain ⟨a1, c1, e1⟩ : ∃ a c, u2 = .slice a x.length c := by obtain ⟨_, a, c, h, _⟩ := hR1; exact ⟨a, c, by simpa using h⟩
  subst e1
  exact eqSignalS_c w _ _ _ _ x hR0 hR1

theorem szLabelS_f (x : (List Lab)) (left : Int) (h0 : 0 ≤ left) (hl : left ≤ 1048576) : Fn Tryd.prog 20 [.sh 2 (x.map dLab), .lit (.int .i64 left)] (.lit (.int .i64 (lessen left (szLabs x)))) [] := by
  refine Fn.of_lit (litOk_i64.2 (by unfold lessen; split <;> omega)) (plain_of Tryd.func20 (by kernel_rfl) (by kernel_rfl)) fun w us h => ?_
  obtain ⟨u, us', rfl, h1, h2⟩ := vxs_cons h
  obtain ⟨u2, rfl, h3⟩ := vxs_one h2
  obtain ⟨rfl, _⟩ := h3.lit_inv
  have hR0 := ((br_sl br_Lab)).of_vxs (x := x) rfl (.cons h1 .nil)
  obtain ⟨a0, c0, e0⟩ : ∃ a c, u = .slice a x.length c := by obtain ⟨_, a, c, h, _⟩ := hR0; exact ⟨a, c, by simpa using h⟩
  subst e0
  exact szLabelS_c w _ _ x left hR0 h0 hl

theorem toLabelS_f (x : (List Lab)) (hz : szLabs x ≤ 1048576) : Fn Tryd.prog 26 [.sh 2 (x.map dLab)] (.own 0) [.fr 2 (x.map dLab)] := by
  refine Fn.of_fr1 (x := x) (br_sl br_Lab) rfl (plain_of Tryd.func26 (by kernel_rfl) (by kernel_rfl)) fun w us h => ?_
  obtain ⟨u, rfl, h1⟩ := vxs_one h
  have hR0 := ((br_sl br_Lab)).of_vxs (x := x) rfl (.cons h1 .nil)
  obtain ⟨a0, c0, e0⟩ : ∃ a c, u = .slice a x.length c := by obtain ⟨_, a, c, h, _⟩ := hR0; exact ⟨a, c, by simpa using h⟩
  subst e0
  exact (toLabelS_c w _ _ x hR0 hz).mono fun e w' ⟨_, _, he, hf, hx⟩ => ⟨_, he, hf, hx⟩

theorem eqLabelS_f (x : (List Lab)) : Fn Tryd.prog 32 [.sh 2 (x.map dLab), .sh 2 (x.map dLab)] (.lit (.bool true)) [] := by
  refine Fn.of_lit trivial (plain_of Tryd.func32 (by kernel_rfl) (by kernel_rfl)) fun w us h => ?_
  obtain ⟨u, us', rfl, h1, h2⟩ := vxs_cons h
  obtain ⟨u2, rfl, h3⟩ := vxs_one h2
  have hR0 := ((br_sl br_Lab)).of_vxs (x := x) rfl (.cons h1 .nil)
  obtain ⟨a0, c0, e0⟩ : ∃ a c, u = .slice a x.length c := by obtain ⟨_, a, c, h, _⟩ := hR0; exact ⟨a, c, by simpa using h⟩
  subst e0
  have hR1 := ((br_sl br_Lab)).of_vxs (x := x) rfl (.cons h3 .nil)
  obtain ⟨a1, c1, e1⟩ : ∃ a c, u2 = .slice a x.length c := by obtain ⟨_, a, c, h, _⟩ := hR1; exact ⟨a, c, by simpa using h⟩
  subst e1
  exact eqLabelS_c w _ _ _ _ x hR0 hR1

theorem szTransition_f (x : Tr) (left : Int) (h0 : 0 ≤ left) (hl : left ≤ 1048576) : Fn Tryd.prog 68 [.agg (dTr x), .lit (.int .i64 left)] (.lit (.int .i64 (lessen left (szTr x)))) [] := by
  refine Fn.of_lit (litOk_i64.2 (by unfold lessen; split <;> omega)) (plain_of Tryd.func68 (by kernel_rfl) (by kernel_rfl)) fun w us h => ?_
  obtain ⟨u, us', rfl, h1, h2⟩ := vxs_cons h
  obtain ⟨u2, rfl, h3⟩ := vxs_one h2
  obtain ⟨rfl, _⟩ := h3.lit_inv
  obtain ⟨us0, rfl, q0⟩ := h1.agg_inv
  have hR0 := br_Tr.of_vxs rfl q0
  obtain ⟨a0_0, c0_0, a0_1, c0_1, rfl⟩ := shape_Tr hR0
  exact szTransition_c w _ _ _ _ x left hR0 h0 hl

theorem toTransition_f (x : Tr) (hz : szTr x ≤ 1048576) : Fn Tryd.prog 71 [.agg (dTr x)] (.agg [.own 0, .own 1]) [.fr 1 (ints x.pre), .fr 1 (ints x.post)] := by
  refine Fn.of_fr (x := x) br_Tr rfl (plain_of Tryd.func71 (by kernel_rfl) (by kernel_rfl)) fun w us h => ?_
  obtain ⟨u, rfl, h1⟩ := vxs_one h
  obtain ⟨us0, rfl, q0⟩ := h1.agg_inv
  have hR0 := br_Tr.of_vxs rfl q0
  obtain ⟨a0_0, c0_0, a0_1, c0_1, rfl⟩ := shape_Tr hR0
  exact (toTransition_c w _ _ _ _ x hR0 hz).mono fun e w' ⟨_, _, _, _, he, hf, hx⟩ => ⟨_, he, hf, hx⟩

theorem eqTransition_f (x : Tr) : Fn Tryd.prog 79 [.agg (dTr x), .agg (dTr x)] (.lit (.bool true)) [] := by
  refine Fn.of_lit trivial (plain_of Tryd.func79 (by kernel_rfl) (by kernel_rfl)) fun w us h => ?_
  obtain ⟨u, us', rfl, h1, h2⟩ := vxs_cons h
  obtain ⟨u2, rfl, h3⟩ := vxs_one h2
  obtain ⟨us0, rfl, q0⟩ := h1.agg_inv
  have hR0 := br_Tr.of_vxs rfl q0
  obtain ⟨a0_0, c0_0, a0_1, c0_1, rfl⟩ := shape_Tr hR0
  obtain ⟨us1, rfl, q1⟩ := h3.agg_inv
  have hR1 := br_Tr.of_vxs rfl q1
  obtain ⟨a1_0, c1_0, a1_1, c1_1, rfl⟩ := shape_Tr hR1
  exact eqTransition_c w _ _ _ _ _ _ _ _ x hR0 hR1

theorem szNet_f (x : NetD) (left : Int) (h0 : 0 ≤ left) (hl : left ≤ 1048576) : Fn Tryd.prog 18 [.agg (dNetD x), .lit (.int .i64 left)] (.lit (.int .i64 (lessen left (szNetD x)))) [] := by
  refine Fn.of_lit (litOk_i64.2 (by unfold lessen; split <;> omega)) (plain_of Tryd.func18 (by kernel_rfl) (by kernel_rfl)) fun w us h => ?_
  obtain ⟨u, us', rfl, h1, h2⟩ := vxs_cons h
  obtain ⟨u2, rfl, h3⟩ := vxs_one h2
  obtain ⟨rfl, _⟩ := h3.lit_inv
  obtain ⟨us0, rfl, q0⟩ := h1.agg_inv
  have hR0 := br_NetD.of_vxs rfl q0
  obtain ⟨a0_1, c0_1, rfl⟩ := shape_NetD hR0
  exact szNet_c w _ _ x left hR0 h0 hl

theorem toNet_f (x : NetD) (hz : szNetD x ≤ 1048576) : Fn Tryd.prog 24 [.agg (dNetD x)] (.agg [.lit (.int .i64 x.places), .own 0]) [.fr 2 (x.trs.map dTr)] := by
  refine Fn.of_fr (x := x) br_NetD rfl (plain_of Tryd.func24 (by kernel_rfl) (by kernel_rfl)) fun w us h => ?_
  obtain ⟨u, rfl, h1⟩ := vxs_one h
  obtain ⟨us0, rfl, q0⟩ := h1.agg_inv
  have hR0 := br_NetD.of_vxs rfl q0
  obtain ⟨a0_1, c0_1, rfl⟩ := shape_NetD hR0
  exact (toNet_c w _ _ x hR0 hz).mono fun e w' ⟨_, _, he, hf, hx⟩ => ⟨_, he, hf, hx⟩

theorem eqNet_f (x : NetD) : Fn Tryd.prog 30 [.agg (dNetD x), .agg (dNetD x)] (.lit (.bool true)) [] := by
  refine Fn.of_lit trivial (plain_of Tryd.func30 (by kernel_rfl) (by kernel_rfl)) fun w us h => ?_
  obtain ⟨u, us', rfl, h1, h2⟩ := vxs_cons h
  obtain ⟨u2, rfl, h3⟩ := vxs_one h2
  obtain ⟨us0, rfl, q0⟩ := h1.agg_inv
  have hR0 := br_NetD.of_vxs rfl q0
  obtain ⟨a0_1, c0_1, rfl⟩ := shape_NetD hR0
  obtain ⟨us1, rfl, q1⟩ := h3.agg_inv
  have hR1 := br_NetD.of_vxs rfl q1
  obtain ⟨a1_1, c1_1, rfl⟩ := shape_NetD hR1
  exact eqNet_c w _ _ _ _ x hR0 hR1

theorem szSignal_f (x : Sig) (left : Int) (h0 : 0 ≤ left) (hl : left ≤ 1048576) : Fn Tryd.prog 43 [.agg (dSig x), .lit (.int .i64 left)] (.lit (.int .i64 (lessen left (szSig x)))) [] := by
  refine Fn.of_lit (litOk_i64.2 (by unfold lessen; split <;> omega)) (plain_of Tryd.func43 (by kernel_rfl) (by kernel_rfl)) fun w us h => ?_
  obtain ⟨u, us', rfl, h1, h2⟩ := vxs_cons h
  obtain ⟨u2, rfl, h3⟩ := vxs_one h2
  obtain ⟨rfl, _⟩ := h3.lit_inv
  obtain ⟨us0, rfl, q0⟩ := h1.agg_inv
  have hR0 := br_Sig.of_vxs rfl q0
  obtain rfl := shape_Sig hR0
  exact szSignal_c w x left hR0 h0 hl

theorem toSignal_f (x : Sig) (hz : szSig x ≤ 1048576) : Fn Tryd.prog 51 [.agg (dSig x)] (.agg [.lit (.string x.name), .lit (.int .i64 x.kind)]) [] := by
  refine Fn.of_fr (x := x) br_Sig rfl (plain_of Tryd.func51 (by kernel_rfl) (by kernel_rfl)) fun w us h => ?_
  obtain ⟨u, rfl, h1⟩ := vxs_one h
  obtain ⟨us0, rfl, q0⟩ := h1.agg_inv
  have hR0 := br_Sig.of_vxs rfl q0
  obtain rfl := shape_Sig hR0
  exact (toSignal_c w x hR0 hz).mono fun e w' ⟨he, hf, hx⟩ => ⟨_, he, hf, hx⟩

theorem eqSignal_f (x : Sig) : Fn Tryd.prog 62 [.agg (dSig x), .agg (dSig x)] (.lit (.bool true)) [] := by
  refine Fn.of_lit trivial (plain_of Tryd.func62 (by kernel_rfl) (by kernel_rfl)) fun w us h => ?_
  obtain ⟨u, us', rfl, h1, h2⟩ := vxs_cons h
  obtain ⟨u2, rfl, h3⟩ := vxs_one h2
  obtain ⟨us0, rfl, q0⟩ := h1.agg_inv
  have hR0 := br_Sig.of_vxs rfl q0
  obtain rfl := shape_Sig hR0
  obtain ⟨us1, rfl, q1⟩ := h3.agg_inv
  have hR1 := br_Sig.of_vxs rfl q1
  obtain rfl := shape_Sig hR1
  exact eqSignal_c w x hR0 hR1

theorem toLabel_f (x : Lab) : Fn Tryd.prog 52 [.agg (dLab x)] (.agg [.lit (.int .i64 x.sig), .lit (.bool x.up)]) [] := by
  refine Fn.of_fr (x := x) br_Lab rfl (plain_of Tryd.func52 (by kernel_rfl) (by kernel_rfl)) fun w us h => ?_
  obtain ⟨u, rfl, h1⟩ := vxs_one h
  obtain ⟨us0, rfl, q0⟩ := h1.agg_inv
  have hR0 := br_Lab.of_vxs rfl q0
  obtain rfl := shape_Lab hR0
  exact (toLabel_c w x hR0).mono fun e w' ⟨he, hf, hx⟩ => ⟨_, he, hf, hx⟩

theorem eqLabel_f (x : Lab) : Fn Tryd.prog 63 [.agg (dLab x), .agg (dLab x)] (.lit (.bool true)) [] := by
  refine Fn.of_lit trivial (plain_of Tryd.func63 (by kernel_rfl) (by kernel_rfl)) fun w us h => ?_
  obtain ⟨u, us', rfl, h1, h2⟩ := vxs_cons h
  obtain ⟨u2, rfl, h3⟩ := vxs_one h2
  obtain ⟨us0, rfl, q0⟩ := h1.agg_inv
  have hR0 := br_Lab.of_vxs rfl q0
  obtain rfl := shape_Lab hR0
  obtain ⟨us1, rfl, q1⟩ := h3.agg_inv
  have hR1 := br_Lab.of_vxs rfl q1
  obtain rfl := shape_Lab hR1
  exact eqLabel_c w x hR0 hR1

theorem szSTG_f (x : Stg) (left : Int) (h0 : 0 ≤ left) (hl : left ≤ 1048576) : Fn Tryd.prog 7 [.agg (dStg x), .lit (.int .i64 left)] (.lit (.int .i64 (lessen left (szStg x)))) [] := by
  refine Fn.of_lit (litOk_i64.2 (by unfold lessen; split <;> omega)) (plain_of Tryd.func7 (by kernel_rfl) (by kernel_rfl)) fun w us h => ?_
  obtain ⟨u, us', rfl, h1, h2⟩ := vxs_cons h
  obtain ⟨u2, rfl, h3⟩ := vxs_one h2
  obtain ⟨rfl, _⟩ := h3.lit_inv
  obtain ⟨us0, rfl, q0⟩ := h1.agg_inv
  have hR0 := br_Stg.of_vxs rfl q0
  obtain ⟨a0_1, c0_1, a0_2, c0_2, a0_3, c0_3, rfl⟩ := shape_Stg hR0
  exact szSTG_c w _ _ _ _ _ _ x left hR0 h0 hl

theorem toSTG_f (x : Stg) (hz : szStg x ≤ 1048576) : Fn Tryd.prog 9 [.agg (dStg x)] (.agg [.lit (.int .i64 x.net.places), .own 0, .own 1, .own 2, .lit (.string x.start)]) [.fr 2 (x.net.trs.map dTr), .fr 2 (x.signals.map dSig), .fr 2 (x.labels.map dLab)] := by
  refine Fn.of_fr (x := x) br_Stg rfl (plain_of Tryd.func9 (by kernel_rfl) (by kernel_rfl)) fun w us h => ?_
  obtain ⟨u, rfl, h1⟩ := vxs_one h
  obtain ⟨us0, rfl, q0⟩ := h1.agg_inv
  have hR0 := br_Stg.of_vxs rfl q0
  obtain ⟨a0_1, c0_1, a0_2, c0_2, a0_3, c0_3, rfl⟩ := shape_Stg hR0
  exact (toSTG_c w _ _ _ _ _ _ x hR0 hz).mono fun e w' ⟨_, _, _, _, _, _, he, hf, hx⟩ => ⟨_, he, hf, hx⟩

theorem eqSTG_f (x : Stg) : Fn Tryd.prog 11 [.agg (dStg x), .agg (dStg x)] (.lit (.bool true)) [] := by
  refine Fn.of_lit trivial (plain_of Tryd.func11 (by kernel_rfl) (by kernel_rfl)) fun w us h => ?_
  obtain ⟨u, us', rfl, h1, h2⟩ := vxs_cons h
  obtain ⟨u2, rfl, h3⟩ := vxs_one h2
  obtain ⟨us0, rfl, q0⟩ := h1.agg_inv
  have hR0 := br_Stg.of_vxs rfl q0
  obtain ⟨a0_1, c0_1, a0_2, c0_2, a0_3, c0_3, rfl⟩ := shape_Stg hR0
  obtain ⟨us1, rfl, q1⟩ := h3.agg_inv
  have hR1 := br_Stg.of_vxs rfl q1
  obtain ⟨a1_1, c1_1, a1_2, c1_2, a1_3, c1_3, rfl⟩ := shape_Stg hR1
  exact eqSTG_c w _ _ _ _ _ _ _ _ _ _ _ _ x hR0 hR1
end Go.Proofs.YtkegeacjalechaaDoor
