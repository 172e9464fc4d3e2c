/- The laws' helpers sz, to, eq, mark, held, as contracts of the engine. -/
import Derived.Test.YtcbfpeplcbgpjaaMarkV
import Derived.Test.YtcbfpeplcbgpjaaSz
import Derived.Test.YtcbfpeplcbgpjaaTo
import Derived.Test.YtcbfpeplcbgpjaaEq
set_option linter.unusedSimpArgs false
set_option linter.unusedVariables false
namespace Go.Proofs.Ytcbfpeplcbgpjaa
open Go.ChangeShapes Go.WideShapes Go.ChangeAt Go.RowKit

theorem szIntS_f (x : (List Int)) (left : Int) (h0 : 0 ≤ left) (hl : left ≤ 1048576) : Fn Try.prog 170 [.sh 1 (ints x), .lit (.int .i64 left)] (.lit (.int .i64 (lessen left (szInts x)))) [] := by
  refine Fn.of_lit (litOk_i64.2 (by unfold lessen; split <;> omega)) (plain_of Try.func170 (by kernel_rfl) (by kernel_rfl)) fun w us h => ?_
  obtain ⟨u, us', rfl, h1, h2⟩ := vxs_cons h
  obtain ⟨u2, rfl, h3⟩ := vxs_one h2
  obtain ⟨rfl, _⟩ := h3.lit_inv
  have hR0 := ((br_sl br_int)).of_vxs (x := x) rfl (.cons h1 .nil)
  obtain ⟨a0, c0, e0⟩ : ∃ a c, u = .slice a x.length c := by obtain ⟨_, a, c, h, _⟩ := hR0; exact ⟨a, c, by simpa using h⟩
  subst e0
  exact szIntS_c w _ _ x left hR0 h0 hl

theorem toIntS_f (x : (List Int)) (hz : szInts x ≤ 1048576) : Fn Try.prog 39 [.sh 1 (ints x)] (.own 0) [.fr 1 (ints x)] := by
  refine Fn.of_fr1 (x := x) (br_sl br_int) rfl (plain_of Try.func39 (by kernel_rfl) (by kernel_rfl)) fun w us h => ?_
  obtain ⟨u, rfl, h1⟩ := vxs_one h
  have hR0 := ((br_sl br_int)).of_vxs (x := x) rfl (.cons h1 .nil)
  obtain ⟨a0, c0, e0⟩ : ∃ a c, u = .slice a x.length c := by obtain ⟨_, a, c, h, _⟩ := hR0; exact ⟨a, c, by simpa using h⟩
  subst e0
  exact (toIntS_c w _ _ x hR0 hz).mono fun e w' ⟨_, _, he, hf, hx⟩ => ⟨_, he, hf, hx⟩

theorem eqIntS_f (x : (List Int)) : Fn Try.prog 41 [.sh 1 (ints x), .sh 1 (ints x)] (.lit (.bool true)) [] := by
  refine Fn.of_lit trivial (plain_of Try.func41 (by kernel_rfl) (by kernel_rfl)) fun w us h => ?_
  obtain ⟨u, us', rfl, h1, h2⟩ := vxs_cons h
  obtain ⟨u2, rfl, h3⟩ := vxs_one h2
  have hR0 := ((br_sl br_int)).of_vxs (x := x) rfl (.cons h1 .nil)
  obtain ⟨a0, c0, e0⟩ : ∃ a c, u = .slice a x.length c := by obtain ⟨_, a, c, h, _⟩ := hR0; exact ⟨a, c, by simpa using h⟩
  subst e0
  have hR1 := ((br_sl br_int)).of_vxs (x := x) rfl (.cons h3 .nil)
  obtain ⟨a1, c1, e1⟩ : ∃ a c, u2 = .slice a x.length c := by obtain ⟨_, a, c, h, _⟩ := hR1; exact ⟨a, c, by simpa using h⟩
  subst e1
  exact eqIntS_c w _ _ _ _ x hR0 hR1

theorem szStringS_f (x : (List ByteArray)) (left : Int) (h0 : 0 ≤ left) (hl : left ≤ 1048576) : Fn Try.prog 53 [.sh 1 (strs x), .lit (.int .i64 left)] (.lit (.int .i64 (lessen left (szStrs x)))) [] := by
  refine Fn.of_lit (litOk_i64.2 (by unfold lessen; split <;> omega)) (plain_of Try.func53 (by kernel_rfl) (by kernel_rfl)) fun w us h => ?_
  obtain ⟨u, us', rfl, h1, h2⟩ := vxs_cons h
  obtain ⟨u2, rfl, h3⟩ := vxs_one h2
  obtain ⟨rfl, _⟩ := h3.lit_inv
  have hR0 := ((br_sl br_str)).of_vxs (x := x) rfl (.cons h1 .nil)
  obtain ⟨a0, c0, e0⟩ : ∃ a c, u = .slice a x.length c := by obtain ⟨_, a, c, h, _⟩ := hR0; exact ⟨a, c, by simpa using h⟩
  subst e0
  exact szStringS_c w _ _ x left hR0 h0 hl

theorem toStringS_f (x : (List ByteArray)) (hz : szStrs x ≤ 1048576) : Fn Try.prog 59 [.sh 1 (strs x)] (.own 0) [.fr 1 (strs x)] := by
  refine Fn.of_fr1 (x := x) (br_sl br_str) rfl (plain_of Try.func59 (by kernel_rfl) (by kernel_rfl)) fun w us h => ?_
  obtain ⟨u, rfl, h1⟩ := vxs_one h
  have hR0 := ((br_sl br_str)).of_vxs (x := x) rfl (.cons h1 .nil)
  obtain ⟨a0, c0, e0⟩ : ∃ a c, u = .slice a x.length c := by obtain ⟨_, a, c, h, _⟩ := hR0; exact ⟨a, c, by simpa using h⟩
  subst e0
  exact (toStringS_c w _ _ x hR0 hz).mono fun e w' ⟨_, _, he, hf, hx⟩ => ⟨_, he, hf, hx⟩

theorem eqStringS_f (x : (List ByteArray)) : Fn Try.prog 65 [.sh 1 (strs x), .sh 1 (strs x)] (.lit (.bool true)) [] := by
  refine Fn.of_lit trivial (plain_of Try.func65 (by kernel_rfl) (by kernel_rfl)) fun w us h => ?_
  obtain ⟨u, us', rfl, h1, h2⟩ := vxs_cons h
  obtain ⟨u2, rfl, h3⟩ := vxs_one h2
  have hR0 := ((br_sl br_str)).of_vxs (x := x) rfl (.cons h1 .nil)
  obtain ⟨a0, c0, e0⟩ : ∃ a c, u = .slice a x.length c := by obtain ⟨_, a, c, h, _⟩ := hR0; exact ⟨a, c, by simpa using h⟩
  subst e0
  have hR1 := ((br_sl br_str)).of_vxs (x := x) rfl (.cons h3 .nil)
  obtain ⟨a1, c1, e1⟩ : ∃ a c, u2 = .slice a x.length c := by obtain ⟨_, a, c, h, _⟩ := hR1; exact ⟨a, c, by simpa using h⟩
  subst e1
  exact eqStringS_c w _ _ _ _ x hR0 hR1

theorem szTransitionS_f (x : (List Tr)) (left : Int) (h0 : 0 ≤ left) (hl : left ≤ 1048576) : Fn Try.prog 42 [.sh 2 (x.map dTr), .lit (.int .i64 left)] (.lit (.int .i64 (lessen left (szTrs x)))) [] := by
  refine Fn.of_lit (litOk_i64.2 (by unfold lessen; split <;> omega)) (plain_of Try.func42 (by kernel_rfl) (by kernel_rfl)) fun w us h => ?_
  obtain ⟨u, us', rfl, h1, h2⟩ := vxs_cons h
  obtain ⟨u2, rfl, h3⟩ := vxs_one h2
  obtain ⟨rfl, _⟩ := h3.lit_inv
  have hR0 := ((br_sl br_Tr)).of_vxs (x := x) rfl (.cons h1 .nil)
  obtain ⟨a0, c0, e0⟩ : ∃ a c, u = .slice a x.length c := by obtain ⟨_, a, c, h, _⟩ := hR0; exact ⟨a, c, by simpa using h⟩
  subst e0
  exact szTransitionS_c w _ _ x left hR0 h0 hl

theorem toTransitionS_f (x : (List Tr)) (hz : szTrs x ≤ 1048576) : Fn Try.prog 46 [.sh 2 (x.map dTr)] (.own 0) [.fr 2 (x.map dTr)] := by
  refine Fn.of_fr1 (x := x) (br_sl br_Tr) rfl (plain_of Try.func46 (by kernel_rfl) (by kernel_rfl)) fun w us h => ?_
  obtain ⟨u, rfl, h1⟩ := vxs_one h
  have hR0 := ((br_sl br_Tr)).of_vxs (x := x) rfl (.cons h1 .nil)
  obtain ⟨a0, c0, e0⟩ : ∃ a c, u = .slice a x.length c := by obtain ⟨_, a, c, h, _⟩ := hR0; exact ⟨a, c, by simpa using h⟩
  subst e0
  exact (toTransitionS_c w _ _ x hR0 hz).mono fun e w' ⟨_, _, he, hf, hx⟩ => ⟨_, he, hf, hx⟩

theorem eqTransitionS_f (x : (List Tr)) : Fn Try.prog 51 [.sh 2 (x.map dTr), .sh 2 (x.map dTr)] (.lit (.bool true)) [] := by
  refine Fn.of_lit trivial (plain_of Try.func51 (by kernel_rfl) (by kernel_rfl)) fun w us h => ?_
  obtain ⟨u, us', rfl, h1, h2⟩ := vxs_cons h
  obtain ⟨u2, rfl, h3⟩ := vxs_one h2
  have hR0 := ((br_sl br_Tr)).of_vxs (x := x) rfl (.cons h1 .nil)
  obtain ⟨a0, c0, e0⟩ : ∃ a c, u = .slice a x.length c := by obtain ⟨_, a, c, h, _⟩ := hR0; exact ⟨a, c, by simpa using h⟩
  subst e0
  have hR1 := ((br_sl br_Tr)).of_vxs (x := x) rfl (.cons h3 .nil)
  obtain ⟨a1, c1, e1⟩ : ∃ a c, u2 = .slice a x.length c := by obtain ⟨_, a, c, h, _⟩ := hR1; exact ⟨a, c, by simpa using h⟩
  subst e1
  exact eqTransitionS_c w _ _ _ _ x hR0 hR1

theorem szSignalS_f (x : (List Sig)) (left : Int) (h0 : 0 ≤ left) (hl : left ≤ 1048576) : Fn Try.prog 52 [.sh 2 (x.map dSig), .lit (.int .i64 left)] (.lit (.int .i64 (lessen left (szSigs x)))) [] := by
  refine Fn.of_lit (litOk_i64.2 (by unfold lessen; split <;> omega)) (plain_of Try.func52 (by kernel_rfl) (by kernel_rfl)) fun w us h => ?_
  obtain ⟨u, us', rfl, h1, h2⟩ := vxs_cons h
  obtain ⟨u2, rfl, h3⟩ := vxs_one h2
  obtain ⟨rfl, _⟩ := h3.lit_inv
  have hR0 := ((br_sl br_Sig)).of_vxs (x := x) rfl (.cons h1 .nil)
  obtain ⟨a0, c0, e0⟩ : ∃ a c, u = .slice a x.length c := by obtain ⟨_, a, c, h, _⟩ := hR0; exact ⟨a, c, by simpa using h⟩
  subst e0
  exact szSignalS_c w _ _ x left hR0 h0 hl

theorem toSignalS_f (x : (List Sig)) (hz : szSigs x ≤ 1048576) : Fn Try.prog 58 [.sh 2 (x.map dSig)] (.own 0) [.fr 2 (x.map dSig)] := by
  refine Fn.of_fr1 (x := x) (br_sl br_Sig) rfl (plain_of Try.func58 (by kernel_rfl) (by kernel_rfl)) fun w us h => ?_
  obtain ⟨u, rfl, h1⟩ := vxs_one h
  have hR0 := ((br_sl br_Sig)).of_vxs (x := x) rfl (.cons h1 .nil)
  obtain ⟨a0, c0, e0⟩ : ∃ a c, u = .slice a x.length c := by obtain ⟨_, a, c, h, _⟩ := hR0; exact ⟨a, c, by simpa using h⟩
  subst e0
  exact (toSignalS_c w _ _ x hR0 hz).mono fun e w' ⟨_, _, he, hf, hx⟩ => ⟨_, he, hf, hx⟩

theorem eqSignalS_f (x : (List Sig)) : Fn Try.prog 64 [.sh 2 (x.map dSig), .sh 2 (x.map dSig)] (.lit (.bool true)) [] := by
  refine Fn.of_lit trivial (plain_of Try.func64 (by kernel_rfl) (by kernel_rfl)) fun w us h => ?_
  obtain ⟨u, us', rfl, h1, h2⟩ := vxs_cons h
  obtain ⟨u2, rfl, h3⟩ := vxs_one h2
  have hR0 := ((br_sl br_Sig)).of_vxs (x := x) rfl (.cons h1 .nil)
  obtain ⟨a0, c0, e0⟩ : ∃ a c, u = .slice a x.length c := by obtain ⟨_, a, c, h, _⟩ := hR0; exact ⟨a, c, by simpa using h⟩
  subst e0
  have hR1 := ((br_sl br_Sig)).of_vxs (x := x) rfl (.cons h3 .nil)
  obtain ⟨a1, c1, e1⟩ : ∃ a c, u2 = .slice a x.length c := by obtain ⟨_, a, c, h, _⟩ := hR1; exact ⟨a, c, by simpa using h⟩
  subst e1
  exact eqSignalS_c w _ _ _ _ x hR0 hR1

theorem szLabelS_f (x : (List Lab)) (left : Int) (h0 : 0 ≤ left) (hl : left ≤ 1048576) : Fn Try.prog 83 [.sh 2 (x.map dLab), .lit (.int .i64 left)] (.lit (.int .i64 (lessen left (szLabs x)))) [] := by
  refine Fn.of_lit (litOk_i64.2 (by unfold lessen; split <;> omega)) (plain_of Try.func83 (by kernel_rfl) (by kernel_rfl)) fun w us h => ?_
  obtain ⟨u, us', rfl, h1, h2⟩ := vxs_cons h
  obtain ⟨u2, rfl, h3⟩ := vxs_one h2
  obtain ⟨rfl, _⟩ := h3.lit_inv
  have hR0 := ((br_sl br_Lab)).of_vxs (x := x) rfl (.cons h1 .nil)
  obtain ⟨a0, c0, e0⟩ : ∃ a c, u = .slice a x.length c := by obtain ⟨_, a, c, h, _⟩ := hR0; exact ⟨a, c, by simpa using h⟩
  subst e0
  exact szLabelS_c w _ _ x left hR0 h0 hl

theorem toLabelS_f (x : (List Lab)) (hz : szLabs x ≤ 1048576) : Fn Try.prog 86 [.sh 2 (x.map dLab)] (.own 0) [.fr 2 (x.map dLab)] := by
  refine Fn.of_fr1 (x := x) (br_sl br_Lab) rfl (plain_of Try.func86 (by kernel_rfl) (by kernel_rfl)) fun w us h => ?_
  obtain ⟨u, rfl, h1⟩ := vxs_one h
  have hR0 := ((br_sl br_Lab)).of_vxs (x := x) rfl (.cons h1 .nil)
  obtain ⟨a0, c0, e0⟩ : ∃ a c, u = .slice a x.length c := by obtain ⟨_, a, c, h, _⟩ := hR0; exact ⟨a, c, by simpa using h⟩
  subst e0
  exact (toLabelS_c w _ _ x hR0 hz).mono fun e w' ⟨_, _, he, hf, hx⟩ => ⟨_, he, hf, hx⟩

theorem eqLabelS_f (x : (List Lab)) : Fn Try.prog 92 [.sh 2 (x.map dLab), .sh 2 (x.map dLab)] (.lit (.bool true)) [] := by
  refine Fn.of_lit trivial (plain_of Try.func92 (by kernel_rfl) (by kernel_rfl)) fun w us h => ?_
  obtain ⟨u, us', rfl, h1, h2⟩ := vxs_cons h
  obtain ⟨u2, rfl, h3⟩ := vxs_one h2
  have hR0 := ((br_sl br_Lab)).of_vxs (x := x) rfl (.cons h1 .nil)
  obtain ⟨a0, c0, e0⟩ : ∃ a c, u = .slice a x.length c := by obtain ⟨_, a, c, h, _⟩ := hR0; exact ⟨a, c, by simpa using h⟩
  subst e0
  have hR1 := ((br_sl br_Lab)).of_vxs (x := x) rfl (.cons h3 .nil)
  obtain ⟨a1, c1, e1⟩ : ∃ a c, u2 = .slice a x.length c := by obtain ⟨_, a, c, h, _⟩ := hR1; exact ⟨a, c, by simpa using h⟩
  subst e1
  exact eqLabelS_c w _ _ _ _ x hR0 hR1

theorem szArcS_f (x : (List ArcD)) (left : Int) (h0 : 0 ≤ left) (hl : left ≤ 1048576) : Fn Try.prog 54 [.sh 4 (x.map dArcD), .lit (.int .i64 left)] (.lit (.int .i64 (lessen left (szArcDs x)))) [] := by
  refine Fn.of_lit (litOk_i64.2 (by unfold lessen; split <;> omega)) (plain_of Try.func54 (by kernel_rfl) (by kernel_rfl)) fun w us h => ?_
  obtain ⟨u, us', rfl, h1, h2⟩ := vxs_cons h
  obtain ⟨u2, rfl, h3⟩ := vxs_one h2
  obtain ⟨rfl, _⟩ := h3.lit_inv
  have hR0 := ((br_sl br_ArcD)).of_vxs (x := x) rfl (.cons h1 .nil)
  obtain ⟨a0, c0, e0⟩ : ∃ a c, u = .slice a x.length c := by obtain ⟨_, a, c, h, _⟩ := hR0; exact ⟨a, c, by simpa using h⟩
  subst e0
  exact szArcS_c w _ _ x left hR0 h0 hl

theorem toArcS_f (x : (List ArcD)) (hz : szArcDs x ≤ 1048576) : Fn Try.prog 60 [.sh 4 (x.map dArcD)] (.own 0) [.fr 4 (x.map dArcD)] := by
  refine Fn.of_fr1 (x := x) (br_sl br_ArcD) rfl (plain_of Try.func60 (by kernel_rfl) (by kernel_rfl)) fun w us h => ?_
  obtain ⟨u, rfl, h1⟩ := vxs_one h
  have hR0 := ((br_sl br_ArcD)).of_vxs (x := x) rfl (.cons h1 .nil)
  obtain ⟨a0, c0, e0⟩ : ∃ a c, u = .slice a x.length c := by obtain ⟨_, a, c, h, _⟩ := hR0; exact ⟨a, c, by simpa using h⟩
  subst e0
  exact (toArcS_c w _ _ x hR0 hz).mono fun e w' ⟨_, _, he, hf, hx⟩ => ⟨_, he, hf, hx⟩

theorem eqArcS_f (x : (List ArcD)) : Fn Try.prog 66 [.sh 4 (x.map dArcD), .sh 4 (x.map dArcD)] (.lit (.bool true)) [] := by
  refine Fn.of_lit trivial (plain_of Try.func66 (by kernel_rfl) (by kernel_rfl)) fun w us h => ?_
  obtain ⟨u, us', rfl, h1, h2⟩ := vxs_cons h
  obtain ⟨u2, rfl, h3⟩ := vxs_one h2
  have hR0 := ((br_sl br_ArcD)).of_vxs (x := x) rfl (.cons h1 .nil)
  obtain ⟨a0, c0, e0⟩ : ∃ a c, u = .slice a x.length c := by obtain ⟨_, a, c, h, _⟩ := hR0; exact ⟨a, c, by simpa using h⟩
  subst e0
  have hR1 := ((br_sl br_ArcD)).of_vxs (x := x) rfl (.cons h3 .nil)
  obtain ⟨a1, c1, e1⟩ : ∃ a c, u2 = .slice a x.length c := by obtain ⟨_, a, c, h, _⟩ := hR1; exact ⟨a, c, by simpa using h⟩
  subst e1
  exact eqArcS_c w _ _ _ _ x hR0 hR1

theorem eqConditionS_f (x : (List Cond)) : Fn Try.prog 76 [.sh 2 (x.map dCond), .sh 2 (x.map dCond)] (.lit (.bool true)) [] := by
  refine Fn.of_lit trivial (plain_of Try.func76 (by kernel_rfl) (by kernel_rfl)) fun w us h => ?_
  obtain ⟨u, us', rfl, h1, h2⟩ := vxs_cons h
  obtain ⟨u2, rfl, h3⟩ := vxs_one h2
  have hR0 := ((br_sl br_Cond)).of_vxs (x := x) rfl (.cons h1 .nil)
  obtain ⟨a0, c0, e0⟩ : ∃ a c, u = .slice a x.length c := by obtain ⟨_, a, c, h, _⟩ := hR0; exact ⟨a, c, by simpa using h⟩
  subst e0
  have hR1 := ((br_sl br_Cond)).of_vxs (x := x) rfl (.cons h3 .nil)
  obtain ⟨a1, c1, e1⟩ : ∃ a c, u2 = .slice a x.length c := by obtain ⟨_, a, c, h, _⟩ := hR1; exact ⟨a, c, by simpa using h⟩
  subst e1
  exact eqConditionS_c w _ _ _ _ x hR0 hR1

theorem eqEventS_f (x : (List Ev)) : Fn Try.prog 77 [.sh 2 (x.map dEv), .sh 2 (x.map dEv)] (.lit (.bool true)) [] := by
  refine Fn.of_lit trivial (plain_of Try.func77 (by kernel_rfl) (by kernel_rfl)) fun w us h => ?_
  obtain ⟨u, us', rfl, h1, h2⟩ := vxs_cons h
  obtain ⟨u2, rfl, h3⟩ := vxs_one h2
  have hR0 := ((br_sl br_Ev)).of_vxs (x := x) rfl (.cons h1 .nil)
  obtain ⟨a0, c0, e0⟩ : ∃ a c, u = .slice a x.length c := by obtain ⟨_, a, c, h, _⟩ := hR0; exact ⟨a, c, by simpa using h⟩
  subst e0
  have hR1 := ((br_sl br_Ev)).of_vxs (x := x) rfl (.cons h3 .nil)
  obtain ⟨a1, c1, e1⟩ : ∃ a c, u2 = .slice a x.length c := by obtain ⟨_, a, c, h, _⟩ := hR1; exact ⟨a, c, by simpa using h⟩
  subst e1
  exact eqEventS_c w _ _ _ _ x hR0 hR1

theorem szTransition_f (x : Tr) (left : Int) (h0 : 0 ≤ left) (hl : left ≤ 1048576) : Fn Try.prog 116 [.agg (dTr x), .lit (.int .i64 left)] (.lit (.int .i64 (lessen left (szTr x)))) [] := by
  refine Fn.of_lit (litOk_i64.2 (by unfold lessen; split <;> omega)) (plain_of Try.func116 (by kernel_rfl) (by kernel_rfl)) fun w us h => ?_
  obtain ⟨u, us', rfl, h1, h2⟩ := vxs_cons h
  obtain ⟨u2, rfl, h3⟩ := vxs_one h2
  obtain ⟨rfl, _⟩ := h3.lit_inv
  obtain ⟨us0, rfl, q0⟩ := h1.agg_inv
  have hR0 := br_Tr.of_vxs rfl q0
  obtain ⟨a0_0, c0_0, a0_1, c0_1, rfl⟩ := shape_Tr hR0
  exact szTransition_c w _ _ _ _ x left hR0 h0 hl

theorem toTransition_f (x : Tr) (hz : szTr x ≤ 1048576) : Fn Try.prog 120 [.agg (dTr x)] (.agg [.own 0, .own 1]) [.fr 1 (ints x.pre), .fr 1 (ints x.post)] := by
  refine Fn.of_fr (x := x) br_Tr rfl (plain_of Try.func120 (by kernel_rfl) (by kernel_rfl)) fun w us h => ?_
  obtain ⟨u, rfl, h1⟩ := vxs_one h
  obtain ⟨us0, rfl, q0⟩ := h1.agg_inv
  have hR0 := br_Tr.of_vxs rfl q0
  obtain ⟨a0_0, c0_0, a0_1, c0_1, rfl⟩ := shape_Tr hR0
  exact (toTransition_c w _ _ _ _ x hR0 hz).mono fun e w' ⟨_, _, _, _, he, hf, hx⟩ => ⟨_, he, hf, hx⟩

theorem eqTransition_f (x : Tr) : Fn Try.prog 127 [.agg (dTr x), .agg (dTr x)] (.lit (.bool true)) [] := by
  refine Fn.of_lit trivial (plain_of Try.func127 (by kernel_rfl) (by kernel_rfl)) fun w us h => ?_
  obtain ⟨u, us', rfl, h1, h2⟩ := vxs_cons h
  obtain ⟨u2, rfl, h3⟩ := vxs_one h2
  obtain ⟨us0, rfl, q0⟩ := h1.agg_inv
  have hR0 := br_Tr.of_vxs rfl q0
  obtain ⟨a0_0, c0_0, a0_1, c0_1, rfl⟩ := shape_Tr hR0
  obtain ⟨us1, rfl, q1⟩ := h3.agg_inv
  have hR1 := br_Tr.of_vxs rfl q1
  obtain ⟨a1_0, c1_0, a1_1, c1_1, rfl⟩ := shape_Tr hR1
  exact eqTransition_c w _ _ _ _ _ _ _ _ x hR0 hR1

theorem szNet_f (x : NetD) (left : Int) (h0 : 0 ≤ left) (hl : left ≤ 1048576) : Fn Try.prog 9 [.agg (dNetD x), .lit (.int .i64 left)] (.lit (.int .i64 (lessen left (szNetD x)))) [] := by
  refine Fn.of_lit (litOk_i64.2 (by unfold lessen; split <;> omega)) (plain_of Try.func9 (by kernel_rfl) (by kernel_rfl)) fun w us h => ?_
  obtain ⟨u, us', rfl, h1, h2⟩ := vxs_cons h
  obtain ⟨u2, rfl, h3⟩ := vxs_one h2
  obtain ⟨rfl, _⟩ := h3.lit_inv
  obtain ⟨us0, rfl, q0⟩ := h1.agg_inv
  have hR0 := br_NetD.of_vxs rfl q0
  obtain ⟨a0_1, c0_1, rfl⟩ := shape_NetD hR0
  exact szNet_c w _ _ x left hR0 h0 hl

theorem toNet_f (x : NetD) (hz : szNetD x ≤ 1048576) : Fn Try.prog 11 [.agg (dNetD x)] (.agg [.lit (.int .i64 x.places), .own 0]) [.fr 2 (x.trs.map dTr)] := by
  refine Fn.of_fr (x := x) br_NetD rfl (plain_of Try.func11 (by kernel_rfl) (by kernel_rfl)) fun w us h => ?_
  obtain ⟨u, rfl, h1⟩ := vxs_one h
  obtain ⟨us0, rfl, q0⟩ := h1.agg_inv
  have hR0 := br_NetD.of_vxs rfl q0
  obtain ⟨a0_1, c0_1, rfl⟩ := shape_NetD hR0
  exact (toNet_c w _ _ x hR0 hz).mono fun e w' ⟨_, _, he, hf, hx⟩ => ⟨_, he, hf, hx⟩

theorem eqNet_f (x : NetD) : Fn Try.prog 13 [.agg (dNetD x), .agg (dNetD x)] (.lit (.bool true)) [] := by
  refine Fn.of_lit trivial (plain_of Try.func13 (by kernel_rfl) (by kernel_rfl)) fun w us h => ?_
  obtain ⟨u, us', rfl, h1, h2⟩ := vxs_cons h
  obtain ⟨u2, rfl, h3⟩ := vxs_one h2
  obtain ⟨us0, rfl, q0⟩ := h1.agg_inv
  have hR0 := br_NetD.of_vxs rfl q0
  obtain ⟨a0_1, c0_1, rfl⟩ := shape_NetD hR0
  obtain ⟨us1, rfl, q1⟩ := h3.agg_inv
  have hR1 := br_NetD.of_vxs rfl q1
  obtain ⟨a1_1, c1_1, rfl⟩ := shape_NetD hR1
  exact eqNet_c w _ _ _ _ x hR0 hR1

theorem szSignal_f (x : Sig) (left : Int) (h0 : 0 ≤ left) (hl : left ≤ 1048576) : Fn Try.prog 128 [.agg (dSig x), .lit (.int .i64 left)] (.lit (.int .i64 (lessen left (szSig x)))) [] := by
  refine Fn.of_lit (litOk_i64.2 (by unfold lessen; split <;> omega)) (plain_of Try.func128 (by kernel_rfl) (by kernel_rfl)) fun w us h => ?_
  obtain ⟨u, us', rfl, h1, h2⟩ := vxs_cons h
  obtain ⟨u2, rfl, h3⟩ := vxs_one h2
  obtain ⟨rfl, _⟩ := h3.lit_inv
  obtain ⟨us0, rfl, q0⟩ := h1.agg_inv
  have hR0 := br_Sig.of_vxs rfl q0
  obtain rfl := shape_Sig hR0
  exact szSignal_c w x left hR0 h0 hl

theorem toSignal_f (x : Sig) (hz : szSig x ≤ 1048576) : Fn Try.prog 133 [.agg (dSig x)] (.agg [.lit (.string x.name), .lit (.int .i64 x.kind)]) [] := by
  refine Fn.of_fr (x := x) br_Sig rfl (plain_of Try.func133 (by kernel_rfl) (by kernel_rfl)) fun w us h => ?_
  obtain ⟨u, rfl, h1⟩ := vxs_one h
  obtain ⟨us0, rfl, q0⟩ := h1.agg_inv
  have hR0 := br_Sig.of_vxs rfl q0
  obtain rfl := shape_Sig hR0
  exact (toSignal_c w x hR0 hz).mono fun e w' ⟨he, hf, hx⟩ => ⟨_, he, hf, hx⟩

theorem eqSignal_f (x : Sig) : Fn Try.prog 141 [.agg (dSig x), .agg (dSig x)] (.lit (.bool true)) [] := by
  refine Fn.of_lit trivial (plain_of Try.func141 (by kernel_rfl) (by kernel_rfl)) fun w us h => ?_
  obtain ⟨u, us', rfl, h1, h2⟩ := vxs_cons h
  obtain ⟨u2, rfl, h3⟩ := vxs_one h2
  obtain ⟨us0, rfl, q0⟩ := h1.agg_inv
  have hR0 := br_Sig.of_vxs rfl q0
  obtain rfl := shape_Sig hR0
  obtain ⟨us1, rfl, q1⟩ := h3.agg_inv
  have hR1 := br_Sig.of_vxs rfl q1
  obtain rfl := shape_Sig hR1
  exact eqSignal_c w x hR0 hR1

theorem toLabel_f (x : Lab) : Fn Try.prog 152 [.agg (dLab x)] (.agg [.lit (.int .i64 x.sig), .lit (.bool x.up)]) [] := by
  refine Fn.of_fr (x := x) br_Lab rfl (plain_of Try.func152 (by kernel_rfl) (by kernel_rfl)) fun w us h => ?_
  obtain ⟨u, rfl, h1⟩ := vxs_one h
  obtain ⟨us0, rfl, q0⟩ := h1.agg_inv
  have hR0 := br_Lab.of_vxs rfl q0
  obtain rfl := shape_Lab hR0
  exact (toLabel_c w x hR0).mono fun e w' ⟨he, hf, hx⟩ => ⟨_, he, hf, hx⟩

theorem eqLabel_f (x : Lab) : Fn Try.prog 159 [.agg (dLab x), .agg (dLab x)] (.lit (.bool true)) [] := by
  refine Fn.of_lit trivial (plain_of Try.func159 (by kernel_rfl) (by kernel_rfl)) fun w us h => ?_
  obtain ⟨u, us', rfl, h1, h2⟩ := vxs_cons h
  obtain ⟨u2, rfl, h3⟩ := vxs_one h2
  obtain ⟨us0, rfl, q0⟩ := h1.agg_inv
  have hR0 := br_Lab.of_vxs rfl q0
  obtain rfl := shape_Lab hR0
  obtain ⟨us1, rfl, q1⟩ := h3.agg_inv
  have hR1 := br_Lab.of_vxs rfl q1
  obtain rfl := shape_Lab hR1
  exact eqLabel_c w x hR0 hR1

theorem szSTG_f (x : Stg) (left : Int) (h0 : 0 ≤ left) (hl : left ≤ 1048576) : Fn Try.prog 29 [.agg (dStg x), .lit (.int .i64 left)] (.lit (.int .i64 (lessen left (szStg x)))) [] := by
  refine Fn.of_lit (litOk_i64.2 (by unfold lessen; split <;> omega)) (plain_of Try.func29 (by kernel_rfl) (by kernel_rfl)) fun w us h => ?_
  obtain ⟨u, us', rfl, h1, h2⟩ := vxs_cons h
  obtain ⟨u2, rfl, h3⟩ := vxs_one h2
  obtain ⟨rfl, _⟩ := h3.lit_inv
  obtain ⟨us0, rfl, q0⟩ := h1.agg_inv
  have hR0 := br_Stg.of_vxs rfl q0
  obtain ⟨a0_1, c0_1, a0_2, c0_2, a0_3, c0_3, rfl⟩ := shape_Stg hR0
  exact szSTG_c w _ _ _ _ _ _ x left hR0 h0 hl

theorem toSTG_f (x : Stg) (hz : szStg x ≤ 1048576) : Fn Try.prog 31 [.agg (dStg x)] (.agg [.lit (.int .i64 x.net.places), .own 0, .own 1, .own 2, .lit (.string x.start)]) [.fr 2 (x.net.trs.map dTr), .fr 2 (x.signals.map dSig), .fr 2 (x.labels.map dLab)] := by
  refine Fn.of_fr (x := x) br_Stg rfl (plain_of Try.func31 (by kernel_rfl) (by kernel_rfl)) fun w us h => ?_
  obtain ⟨u, rfl, h1⟩ := vxs_one h
  obtain ⟨us0, rfl, q0⟩ := h1.agg_inv
  have hR0 := br_Stg.of_vxs rfl q0
  obtain ⟨a0_1, c0_1, a0_2, c0_2, a0_3, c0_3, rfl⟩ := shape_Stg hR0
  exact (toSTG_c w _ _ _ _ _ _ x hR0 hz).mono fun e w' ⟨_, _, _, _, _, _, he, hf, hx⟩ => ⟨_, he, hf, hx⟩

theorem eqSTG_f (x : Stg) : Fn Try.prog 33 [.agg (dStg x), .agg (dStg x)] (.lit (.bool true)) [] := by
  refine Fn.of_lit trivial (plain_of Try.func33 (by kernel_rfl) (by kernel_rfl)) fun w us h => ?_
  obtain ⟨u, us', rfl, h1, h2⟩ := vxs_cons h
  obtain ⟨u2, rfl, h3⟩ := vxs_one h2
  obtain ⟨us0, rfl, q0⟩ := h1.agg_inv
  have hR0 := br_Stg.of_vxs rfl q0
  obtain ⟨a0_1, c0_1, a0_2, c0_2, a0_3, c0_3, rfl⟩ := shape_Stg hR0
  obtain ⟨us1, rfl, q1⟩ := h3.agg_inv
  have hR1 := br_Stg.of_vxs rfl q1
  obtain ⟨a1_1, c1_1, a1_2, c1_2, a1_3, c1_3, rfl⟩ := shape_Stg hR1
  exact eqSTG_c w _ _ _ _ _ _ _ _ _ _ _ _ x hR0 hR1

theorem toArc_f (x : ArcD) : Fn Try.prog 134 [.agg (dArcD x)] (.agg [.lit (.int .i64 x.src), .lit (.int .i64 x.sig), .lit (.bool x.up), .lit (.int .i64 x.dst)]) [] := by
  refine Fn.of_fr (x := x) br_ArcD rfl (plain_of Try.func134 (by kernel_rfl) (by kernel_rfl)) fun w us h => ?_
  obtain ⟨u, rfl, h1⟩ := vxs_one h
  obtain ⟨us0, rfl, q0⟩ := h1.agg_inv
  have hR0 := br_ArcD.of_vxs rfl q0
  obtain rfl := shape_ArcD hR0
  exact (toArc_c w x hR0).mono fun e w' ⟨he, hf, hx⟩ => ⟨_, he, hf, hx⟩

theorem eqArc_f (x : ArcD) : Fn Try.prog 142 [.agg (dArcD x), .agg (dArcD x)] (.lit (.bool true)) [] := by
  refine Fn.of_lit trivial (plain_of Try.func142 (by kernel_rfl) (by kernel_rfl)) fun w us h => ?_
  obtain ⟨u, us', rfl, h1, h2⟩ := vxs_cons h
  obtain ⟨u2, rfl, h3⟩ := vxs_one h2
  obtain ⟨us0, rfl, q0⟩ := h1.agg_inv
  have hR0 := br_ArcD.of_vxs rfl q0
  obtain rfl := shape_ArcD hR0
  obtain ⟨us1, rfl, q1⟩ := h3.agg_inv
  have hR1 := br_ArcD.of_vxs rfl q1
  obtain rfl := shape_ArcD hR1
  exact eqArc_c w x hR0 hR1

theorem szStateGraph_f (x : SGraph) (left : Int) (h0 : 0 ≤ left) (hl : left ≤ 1048576) : Fn Try.prog 14 [.agg (dSGraph x), .lit (.int .i64 left)] (.lit (.int .i64 (lessen left (szSGraph x)))) [] := by
  refine Fn.of_lit (litOk_i64.2 (by unfold lessen; split <;> omega)) (plain_of Try.func14 (by kernel_rfl) (by kernel_rfl)) fun w us h => ?_
  obtain ⟨u, us', rfl, h1, h2⟩ := vxs_cons h
  obtain ⟨u2, rfl, h3⟩ := vxs_one h2
  obtain ⟨rfl, _⟩ := h3.lit_inv
  obtain ⟨us0, rfl, q0⟩ := h1.agg_inv
  have hR0 := br_SGraph.of_vxs rfl q0
  obtain ⟨a0_0, c0_0, a0_1, c0_1, a0_2, c0_2, rfl⟩ := shape_SGraph hR0
  exact szStateGraph_c w _ _ _ _ _ _ x left hR0 h0 hl

theorem toStateGraph_f (x : SGraph) (hz : szSGraph x ≤ 1048576) : Fn Try.prog 16 [.agg (dSGraph x)] (.agg [.own 0, .own 1, .own 2]) [.fr 2 (x.signals.map dSig), .fr 1 (strs x.codes), .fr 4 (x.arcs.map dArcD)] := by
  refine Fn.of_fr (x := x) br_SGraph rfl (plain_of Try.func16 (by kernel_rfl) (by kernel_rfl)) fun w us h => ?_
  obtain ⟨u, rfl, h1⟩ := vxs_one h
  obtain ⟨us0, rfl, q0⟩ := h1.agg_inv
  have hR0 := br_SGraph.of_vxs rfl q0
  obtain ⟨a0_0, c0_0, a0_1, c0_1, a0_2, c0_2, rfl⟩ := shape_SGraph hR0
  exact (toStateGraph_c w _ _ _ _ _ _ x hR0 hz).mono fun e w' ⟨_, _, _, _, _, _, he, hf, hx⟩ => ⟨_, he, hf, hx⟩

theorem eqStateGraph_f (x : SGraph) : Fn Try.prog 19 [.agg (dSGraph x), .agg (dSGraph x)] (.lit (.bool true)) [] := by
  refine Fn.of_lit trivial (plain_of Try.func19 (by kernel_rfl) (by kernel_rfl)) fun w us h => ?_
  obtain ⟨u, us', rfl, h1, h2⟩ := vxs_cons h
  obtain ⟨u2, rfl, h3⟩ := vxs_one h2
  obtain ⟨us0, rfl, q0⟩ := h1.agg_inv
  have hR0 := br_SGraph.of_vxs rfl q0
  obtain ⟨a0_0, c0_0, a0_1, c0_1, a0_2, c0_2, rfl⟩ := shape_SGraph hR0
  obtain ⟨us1, rfl, q1⟩ := h3.agg_inv
  have hR1 := br_SGraph.of_vxs rfl q1
  obtain ⟨a1_0, c1_0, a1_1, c1_1, a1_2, c1_2, rfl⟩ := shape_SGraph hR1
  exact eqStateGraph_c w _ _ _ _ _ _ _ _ _ _ _ _ x hR0 hR1

theorem eqCondition_f (x : Cond) : Fn Try.prog 146 [.agg (dCond x), .agg (dCond x)] (.lit (.bool true)) [] := by
  refine Fn.of_lit trivial (plain_of Try.func146 (by kernel_rfl) (by kernel_rfl)) fun w us h => ?_
  obtain ⟨u, us', rfl, h1, h2⟩ := vxs_cons h
  obtain ⟨u2, rfl, h3⟩ := vxs_one h2
  obtain ⟨us0, rfl, q0⟩ := h1.agg_inv
  have hR0 := br_Cond.of_vxs rfl q0
  obtain rfl := shape_Cond hR0
  obtain ⟨us1, rfl, q1⟩ := h3.agg_inv
  have hR1 := br_Cond.of_vxs rfl q1
  obtain rfl := shape_Cond hR1
  exact eqCondition_c w x hR0 hR1

theorem eqEvent_f (x : Ev) : Fn Try.prog 147 [.agg (dEv x), .agg (dEv x)] (.lit (.bool true)) [] := by
  refine Fn.of_lit trivial (plain_of Try.func147 (by kernel_rfl) (by kernel_rfl)) fun w us h => ?_
  obtain ⟨u, us', rfl, h1, h2⟩ := vxs_cons h
  obtain ⟨u2, rfl, h3⟩ := vxs_one h2
  obtain ⟨us0, rfl, q0⟩ := h1.agg_inv
  have hR0 := br_Ev.of_vxs rfl q0
  obtain ⟨a0_1, c0_1, rfl⟩ := shape_Ev hR0
  obtain ⟨us1, rfl, q1⟩ := h3.agg_inv
  have hR1 := br_Ev.of_vxs rfl q1
  obtain ⟨a1_1, c1_1, rfl⟩ := shape_Ev hR1
  exact eqEvent_c w _ _ _ _ x hR0 hR1

theorem eqUnfolding_f (x : Unf) : Fn Try.prog 25 [.agg (dUnf x), .agg (dUnf x)] (.lit (.bool true)) [] := by
  refine Fn.of_lit trivial (plain_of Try.func25 (by kernel_rfl) (by kernel_rfl)) fun w us h => ?_
  obtain ⟨u, us', rfl, h1, h2⟩ := vxs_cons h
  obtain ⟨u2, rfl, h3⟩ := vxs_one h2
  obtain ⟨us0, rfl, q0⟩ := h1.agg_inv
  have hR0 := br_Unf.of_vxs rfl q0
  obtain ⟨a0_0, c0_0, a0_1, c0_1, rfl⟩ := shape_Unf hR0
  obtain ⟨us1, rfl, q1⟩ := h3.agg_inv
  have hR1 := br_Unf.of_vxs rfl q1
  obtain ⟨a1_0, c1_0, a1_1, c1_1, rfl⟩ := shape_Unf hR1
  exact eqUnfolding_c w _ _ _ _ _ _ _ _ x hR0 hR1

theorem markIntS_m (l : (List Int)) (k0 : Int) (h0 : 0 ≤ k0) (h1 : k0 ≤ 1000000000000) (hl : l.length ≤ 1048576) : MFn Try.prog 70 false [.sh 1 (ints l)] k0 (k0 + ((l.length * 1 : Nat) : Int)) (some [.sh 1 (mrows 1 fInt l.length k0)]) :=
  mfn_flat (m := 1) br_int rfl (by intro x d hd; simp at hd; subst hd; rfl) (plain_of Try.func70 (by kernel_rfl) (by kernel_rfl)) (mvals_all (fun i q hi h2 h3 => by
    match i, hi with
    | _, _ => exact litOk_i64.2 (by omega))) (litOk_i64.2 (by omega)) fun w a c bs h hu => markIntS_c w a c l bs k0 h hu h0 (by omega) hl

theorem heldIntS_f (n : Nat) (k0 : Int) (h0 : 0 ≤ k0) (h1 : k0 ≤ 1000000000000) (hl : n ≤ 1048576) : Fn Try.prog 71 [.sh 1 (mrows 1 fInt n k0), .lit (.int .i64 k0)] (.lit (.int .i64 (k0 + ((n * 1 : Nat) : Int)))) [] :=
  held_flat (plain_of Try.func71 (by kernel_rfl) (by kernel_rfl)) (litOk_i64.2 (by omega)) fun w a c h => heldIntS_c w a c n k0 h h0 (by omega) hl

theorem markStringS_m (l : (List ByteArray)) (k0 : Int) (h0 : 0 ≤ k0) (h1 : k0 ≤ 1000000000000) (hl : l.length ≤ 1048576) : MFn Try.prog 68 false [.sh 1 (strs l)] k0 (k0 + ((l.length * 1 : Nat) : Int)) (some [.sh 1 (mrows 1 fStr l.length k0)]) :=
  mfn_flat (m := 1) br_str rfl (by intro x d hd; simp at hd; subst hd; rfl) (plain_of Try.func68 (by kernel_rfl) (by kernel_rfl)) (mvals_all (fun i q hi h2 h3 => by
    match i, hi with
    | _, _ => (have := markStr_size q; show (markStr q).size ≤ 9223372036854775807; omega))) (litOk_i64.2 (by omega)) fun w a c bs h hu => markStringS_c w a c l bs k0 h hu h0 (by omega) hl

theorem markSignalS_m (l : (List Sig)) (k0 : Int) (h0 : 0 ≤ k0) (h1 : k0 ≤ 1000000000000) (hl : l.length ≤ 1048576) : MFn Try.prog 67 false [.sh 2 (l.map dSig)] k0 (k0 + ((l.length * 2 : Nat) : Int)) (some [.sh 2 (mrows 2 fSig l.length k0)]) :=
  mfn_flat (m := 2) br_Sig rfl (by intro x d hd; simp [dSig] at hd; rcases hd with rfl | rfl <;> rfl) (plain_of Try.func67 (by kernel_rfl) (by kernel_rfl)) (mvals_all (fun i q hi h2 h3 => by
    match i, hi with
    | 0, _ => (have := markStr_size q; show (markStr q).size ≤ 9223372036854775807; omega)
    | 1, _ => exact litOk_i64.2 (by omega))) (litOk_i64.2 (by omega)) fun w a c bs h hu => markSignalS_c w a c l bs k0 h hu h0 (by omega) hl

theorem markLabelS_m (l : (List Lab)) (k0 : Int) (h0 : 0 ≤ k0) (h1 : k0 ≤ 1000000000000) (hl : l.length ≤ 1048576) : MFn Try.prog 93 false [.sh 2 (l.map dLab)] k0 (k0 + ((l.length * 2 : Nat) : Int)) (some [.sh 2 (mrows 2 fLab l.length k0)]) :=
  mfn_flat (m := 2) br_Lab rfl (by intro x d hd; simp [dLab] at hd; rcases hd with rfl | rfl <;> rfl) (plain_of Try.func93 (by kernel_rfl) (by kernel_rfl)) (mvals_all (fun i q hi h2 h3 => by
    match i, hi with
    | 0, _ => exact litOk_i64.2 (by omega)
    | 1, _ => exact trivial)) (litOk_i64.2 (by omega)) fun w a c bs h hu => markLabelS_c w a c l bs k0 h hu h0 (by omega) hl

theorem heldLabelS_f (n : Nat) (k0 : Int) (h0 : 0 ≤ k0) (h1 : k0 ≤ 1000000000000) (hl : n ≤ 1048576) : Fn Try.prog 96 [.sh 2 (mrows 2 fLab n k0), .lit (.int .i64 k0)] (.lit (.int .i64 (k0 + ((n * 2 : Nat) : Int)))) [] :=
  held_flat (plain_of Try.func96 (by kernel_rfl) (by kernel_rfl)) (litOk_i64.2 (by omega)) fun w a c h => heldLabelS_c w a c n k0 h h0 (by omega) hl

theorem markArcS_m (l : (List ArcD)) (k0 : Int) (h0 : 0 ≤ k0) (h1 : k0 ≤ 1000000000000) (hl : l.length ≤ 1048576) : MFn Try.prog 69 false [.sh 4 (l.map dArcD)] k0 (k0 + ((l.length * 4 : Nat) : Int)) (some [.sh 4 (mrows 4 fArcD l.length k0)]) :=
  mfn_flat (m := 4) br_ArcD rfl (by intro x d hd; simp [dArcD] at hd; rcases hd with rfl | rfl | rfl | rfl <;> rfl) (plain_of Try.func69 (by kernel_rfl) (by kernel_rfl)) (mvals_all (fun i q hi h2 h3 => by
    match i, hi with
    | 0, _ => exact litOk_i64.2 (by omega)
    | 1, _ => exact litOk_i64.2 (by omega)
    | 2, _ => exact trivial
    | 3, _ => exact litOk_i64.2 (by omega))) (litOk_i64.2 (by omega)) fun w a c bs h hu => markArcS_c w a c l bs k0 h hu h0 (by omega) hl

theorem markConditionS_m (l : (List Cond)) (k0 : Int) (h0 : 0 ≤ k0) (h1 : k0 ≤ 1000000000000) (hl : l.length ≤ 1048576) : MFn Try.prog 79 false [.sh 2 (l.map dCond)] k0 (k0 + ((l.length * 2 : Nat) : Int)) (some [.sh 2 (mrows 2 fCond l.length k0)]) :=
  mfn_flat (m := 2) br_Cond rfl (by intro x d hd; simp [dCond] at hd; rcases hd with rfl | rfl <;> rfl) (plain_of Try.func79 (by kernel_rfl) (by kernel_rfl)) (mvals_all (fun i q hi h2 h3 => by
    match i, hi with
    | 0, _ => exact litOk_i64.2 (by omega)
    | 1, _ => exact litOk_i64.2 (by omega))) (litOk_i64.2 (by omega)) fun w a c bs h hu => markConditionS_c w a c l bs k0 h hu h0 (by omega) hl

theorem heldConditionS_f (n : Nat) (k0 : Int) (h0 : 0 ≤ k0) (h1 : k0 ≤ 1000000000000) (hl : n ≤ 1048576) : Fn Try.prog 81 [.sh 2 (mrows 2 fCond n k0), .lit (.int .i64 k0)] (.lit (.int .i64 (k0 + ((n * 2 : Nat) : Int)))) [] :=
  held_flat (plain_of Try.func81 (by kernel_rfl) (by kernel_rfl)) (litOk_i64.2 (by omega)) fun w a c h => heldConditionS_c w a c n k0 h h0 (by omega) hl

theorem cntTrs_le {l : List Tr} (hz : szTrs l ≤ 1048576) : cntTrs l ≤ 1048576 := by
  unfold szTrs at hz
  have e : (l.map fun x => szTr x).sum = cntTrs l := rfl
  first | omega | (rw [e] at hz; omega)

theorem markTransitionS_m (l : List Tr) (k0 : Int) (h0 : 0 ≤ k0) (h1 : k0 ≤ 100000000000) (hz : szTrs l ≤ 1048576) : MFn Try.prog 78 false [.sh 2 (l.map dTr)] k0 (k0 + (cntTrs l : Nat)) none := by
  have hc := cntTrs_le hz
  refine mfn_none (f := fun l : List Tr => [.sh tTr.n (l.map dTr)]) (br_sl br_Tr) (plain_of Try.func78 (by kernel_rfl) (by kernel_rfl)) (litOk_i64.2 (by omega)) fun w us bs h hd hu => ?_
  obtain ⟨a, c, e, _⟩ := id h
  subst e
  exact markTransitionS_w w a c l bs k0 h hd hu h0 h1 hz

theorem markNet_le (x : NetD) (hz : szNetD x ≤ 1048576) : cntTrs x.trs ≤ 8388608 := by
  simp only [szNetD] at hz
  refine Nat.le_trans (cntTrs_le (by omega)) (by decide)

set_option maxHeartbeats 800000 in
theorem markNet_m (x : NetD) (k0 : Int) (h0 : 0 ≤ k0) (h1 : k0 ≤ 1000000000) (hz : szNetD x ≤ 1048576) : MFn Try.prog 26 true (dNetD x) k0 (k0 + ((cntTrs x.trs : Nat) : Int)) none := by
  have hz' := hz
  simp only [szNetD] at hz'
  have hc_trs : cntTrs x.trs ≤ 1048576 := cntTrs_le (by omega)
  refine ⟨(plain_of Try.func26 (by kernel_rfl) (by kernel_rfl)), litOk_i64.2 (by omega), fun w us bs hv hnd hun => ?_⟩
  obtain ⟨u0, us0, b0, bs0, rfl, rfl, v0, t0⟩ := vrs_cons hv
  obtain ⟨u1, us1, b1, bs1, rfl, rfl, v1, t1⟩ := vrs_cons t0
  obtain ⟨rfl, rfl⟩ := vrs_nil t1
  have HV := Lib.hid hv
  have HND := Lib.hid hnd
  have HUN := Lib.hid hun
  clear hnd hun hv t0 t1
  have HIN : Hid (∀ k ∈ b0 ++ (b1 ++ []), k < w.heap.size) := Lib.hid HV.out.inb
  show Calls Try.prog 26 #[.agg #[u0, u1], .int .i64 k0] w _
  have hE0 : Ext w (w.alloc (.cells #[u0, u1] 30)) := (Ext.refl w).alloc _
  have V0 := Lib.hid v0
  have V1 := Lib.hid v1
  clear v0 v1
  go_enter Try.func26, Try.ntmps26
  go_wp2_with fail
  have hsub0 : List.Sublist b1 (b0 ++ (b1 ++ [])) := ((List.sublist_append_left _ _).trans (List.sublist_append_right _ _))
  refine (MFn.next (markTransitionS_m x.trs _ (by omega) (by omega) (by omega)) (bs := b1) (us := [u1]) ((Turn.of_ext hE0 : Turn [] w _)) (by simpa using VRs.cons V1.out .nil) (HND.out.sublist hsub0) (fun k hk => HUN.out k (hsub0.subset hk)) (by intro k hk hk2; simp at hk2)).mono ?_
  rintro e w1 ⟨rfl, ht1, hT1⟩
  have HT1 := Lib.hid hT1
  clear ht1 hT1
  go_wp2
  go_ret
  exact ⟨ret_int (by omega), HT1.out.mono (fun k hk => by simp only [List.append_nil, List.nil_append, List.mem_append] at hk ⊢; grind), fun l h => by cases h⟩

theorem markSTG_le (x : Stg) (hz : szStg x ≤ 1048576) : cntTrs x.net.trs ≤ 8388608 ∧ (x.signals.length * 2) ≤ 8388608 ∧ (x.labels.length * 2) ≤ 8388608 := by
  simp only [szStg, szNetD, szSigs, szLabs] at hz
  refine ⟨Nat.le_trans (cntTrs_le (by omega)) (by decide), by omega, by omega⟩

set_option maxHeartbeats 800000 in
theorem markSTG_m (x : Stg) (k0 : Int) (h0 : 0 ≤ k0) (h1 : k0 ≤ 1000000000) (hz : szStg x ≤ 1048576) : MFn Try.prog 34 true (dStg x) k0 (k0 + ((cntTrs x.net.trs : Nat) : Int) + (((x.signals.length * 2) : Nat) : Int) + (((x.labels.length * 2) : Nat) : Int)) none := by
  have hz' := hz
  simp only [szStg, szNetD, szSigs, szLabs] at hz'
  have hc_net : cntTrs x.net.trs ≤ 1048576 := cntTrs_le (by omega)
  refine ⟨(plain_of Try.func34 (by kernel_rfl) (by kernel_rfl)), litOk_i64.2 (by omega), fun w us bs hv hnd hun => ?_⟩
  obtain ⟨u0, us0, b0, bs0, rfl, rfl, v0, t0⟩ := vrs_cons hv
  obtain ⟨u1, us1, b1, bs1, rfl, rfl, v1, t1⟩ := vrs_cons t0
  obtain ⟨u2, us2, b2, bs2, rfl, rfl, v2, t2⟩ := vrs_cons t1
  obtain ⟨u3, us3, b3, bs3, rfl, rfl, v3, t3⟩ := vrs_cons t2
  obtain ⟨u4, us4, b4, bs4, rfl, rfl, v4, t4⟩ := vrs_cons t3
  obtain ⟨rfl, rfl⟩ := vrs_nil t4
  have HV := Lib.hid hv
  have HND := Lib.hid hnd
  have HUN := Lib.hid hun
  clear hnd hun hv t0 t1 t2 t3 t4
  have HIN : Hid (∀ k ∈ b0 ++ (b1 ++ (b2 ++ (b3 ++ (b4 ++ [])))), k < w.heap.size) := Lib.hid HV.out.inb
  show Calls Try.prog 34 #[.agg #[u0, u1, u2, u3, u4], .int .i64 k0] w _
  have hE0 : Ext w (w.alloc (.cells #[u0, u1, u2, u3, u4] 69)) := (Ext.refl w).alloc _
  have V0 := Lib.hid v0
  have V1 := Lib.hid v1
  have V2 := Lib.hid v2
  have V3 := Lib.hid v3
  have V4 := Lib.hid v4
  clear v0 v1 v2 v3 v4
  go_enter Try.func34, Try.ntmps34
  go_wp2_with fail
  have hsub0 : List.Sublist (b0 ++ (b1 ++ ([]))) (b0 ++ (b1 ++ (b2 ++ (b3 ++ (b4 ++ []))))) := ((List.Sublist.refl _).append ((List.Sublist.refl _).append (List.nil_sublist _)))
  refine (MFn.next (markNet_m x.net _ (by omega) (by omega) (by simp only [szNetD]; omega)) (bs := (b0 ++ (b1 ++ ([])))) (us := [u0, u1]) ((Turn.of_ext hE0 : Turn [] w _)) (.cons V0.out (.cons V1.out (.nil))) (HND.out.sublist hsub0) (fun k hk => HUN.out k (hsub0.subset hk)) (by intro k hk hk2; simp at hk2)).mono ?_
  rintro e w1 ⟨rfl, ht1, hT1⟩
  have HT1 := Lib.hid hT1
  have hb1_2 : w1.cell? ⟨w.heap.size, 2, none⟩ = some u2 := by rw [cell_of_heap (ht1.block _ (by simp) (fun hm => absurd (HIN.out _ (hsub0.subset hm)) (Nat.lt_irrefl _)))]; exact World.cell?_alloc_new _ _ _ _
  have hb1_3 : w1.cell? ⟨w.heap.size, 3, none⟩ = some u3 := by rw [cell_of_heap (ht1.block _ (by simp) (fun hm => absurd (HIN.out _ (hsub0.subset hm)) (Nat.lt_irrefl _)))]; exact World.cell?_alloc_new _ _ _ _
  clear ht1 hT1
  go_wp2_with fail
  have hsub1 : List.Sublist b2 (b0 ++ (b1 ++ (b2 ++ (b3 ++ (b4 ++ []))))) := (((List.sublist_append_left _ _).trans (List.sublist_append_right _ _)).trans (List.sublist_append_right _ _))
  refine (MFn.next (markSignalS_m x.signals _ (by omega) (by omega) (by omega)) (bs := b2) (us := [u2]) HT1.out (by simpa using VRs.cons V2.out .nil) (HND.out.sublist hsub1) (fun k hk => HUN.out k (hsub1.subset hk)) (by have := HND.out; simp only [List.append_nil, List.nodup_append, List.mem_append, ne_eq] at this; intro k hk hk2; simp only [List.append_nil, List.nil_append, List.mem_append] at hk hk2; grind)).mono ?_
  rintro e w2 ⟨rfl, ht2, hT2⟩
  have HT2 := Lib.hid hT2
  have hb2_3 : w2.cell? ⟨w.heap.size, 3, none⟩ = some u3 := by rw [cell_of_heap (ht2.block _ (lt_of_cell hb1_3) (fun hm => absurd (HIN.out _ (hsub1.subset hm)) (Nat.lt_irrefl _)))]; exact hb1_3
  clear ht2 hT2
  go_wp2_with fail
  have hsub2 : List.Sublist b3 (b0 ++ (b1 ++ (b2 ++ (b3 ++ (b4 ++ []))))) := ((((List.sublist_append_left _ _).trans (List.sublist_append_right _ _)).trans (List.sublist_append_right _ _)).trans (List.sublist_append_right _ _))
  refine (MFn.next (markLabelS_m x.labels _ (by omega) (by omega) (by omega)) (bs := b3) (us := [u3]) HT2.out (by simpa using VRs.cons V3.out .nil) (HND.out.sublist hsub2) (fun k hk => HUN.out k (hsub2.subset hk)) (by have := HND.out; simp only [List.append_nil, List.nodup_append, List.mem_append, ne_eq] at this; intro k hk hk2; simp only [List.append_nil, List.nil_append, List.mem_append] at hk hk2; grind)).mono ?_
  rintro e w3 ⟨rfl, ht3, hT3⟩
  have HT3 := Lib.hid hT3
  clear ht3 hT3
  go_wp2
  go_ret
  exact ⟨ret_int (by omega), HT3.out.mono (fun k hk => by simp only [List.append_nil, List.nil_append, List.mem_append] at hk ⊢; grind), fun l h => by cases h⟩

theorem markStateGraph_le (x : SGraph) (hz : szSGraph x ≤ 1048576) : (x.signals.length * 2) ≤ 8388608 ∧ (x.codes.length * 1) ≤ 8388608 ∧ (x.arcs.length * 4) ≤ 8388608 := by
  simp only [szSGraph, szSigs, szStrs, szArcDs] at hz
  refine ⟨by omega, by omega, by omega⟩

set_option maxHeartbeats 800000 in
theorem markStateGraph_m (x : SGraph) (k0 : Int) (h0 : 0 ≤ k0) (h1 : k0 ≤ 1000000000) (hz : szSGraph x ≤ 1048576) : MFn Try.prog 20 true (dSGraph x) k0 (k0 + (((x.signals.length * 2) : Nat) : Int) + (((x.codes.length * 1) : Nat) : Int) + (((x.arcs.length * 4) : Nat) : Int)) none := by
  have hz' := hz
  simp only [szSGraph, szSigs, szStrs, szArcDs] at hz'
  refine ⟨(plain_of Try.func20 (by kernel_rfl) (by kernel_rfl)), litOk_i64.2 (by omega), fun w us bs hv hnd hun => ?_⟩
  obtain ⟨u0, us0, b0, bs0, rfl, rfl, v0, t0⟩ := vrs_cons hv
  obtain ⟨u1, us1, b1, bs1, rfl, rfl, v1, t1⟩ := vrs_cons t0
  obtain ⟨u2, us2, b2, bs2, rfl, rfl, v2, t2⟩ := vrs_cons t1
  obtain ⟨rfl, rfl⟩ := vrs_nil t2
  have HV := Lib.hid hv
  have HND := Lib.hid hnd
  have HUN := Lib.hid hun
  clear hnd hun hv t0 t1 t2
  have HIN : Hid (∀ k ∈ b0 ++ (b1 ++ (b2 ++ [])), k < w.heap.size) := Lib.hid HV.out.inb
  show Calls Try.prog 20 #[.agg #[u0, u1, u2], .int .i64 k0] w _
  have hE0 : Ext w (w.alloc (.cells #[u0, u1, u2] 46)) := (Ext.refl w).alloc _
  have V0 := Lib.hid v0
  have V1 := Lib.hid v1
  have V2 := Lib.hid v2
  clear v0 v1 v2
  go_enter Try.func20, Try.ntmps20
  go_wp2_with fail
  have hsub0 : List.Sublist b0 (b0 ++ (b1 ++ (b2 ++ []))) := (List.sublist_append_left _ _)
  refine (MFn.next (markSignalS_m x.signals _ (by omega) (by omega) (by omega)) (bs := b0) (us := [u0]) ((Turn.of_ext hE0 : Turn [] w _)) (by simpa using VRs.cons V0.out .nil) (HND.out.sublist hsub0) (fun k hk => HUN.out k (hsub0.subset hk)) (by intro k hk hk2; simp at hk2)).mono ?_
  rintro e w1 ⟨rfl, ht1, hT1⟩
  have HT1 := Lib.hid hT1
  have hb1_1 : w1.cell? ⟨w.heap.size, 1, none⟩ = some u1 := by rw [cell_of_heap (ht1.block _ (by simp) (fun hm => absurd (HIN.out _ (hsub0.subset hm)) (Nat.lt_irrefl _)))]; exact World.cell?_alloc_new _ _ _ _
  have hb1_2 : w1.cell? ⟨w.heap.size, 2, none⟩ = some u2 := by rw [cell_of_heap (ht1.block _ (by simp) (fun hm => absurd (HIN.out _ (hsub0.subset hm)) (Nat.lt_irrefl _)))]; exact World.cell?_alloc_new _ _ _ _
  clear ht1 hT1
  go_wp2_with fail
  have hsub1 : List.Sublist b1 (b0 ++ (b1 ++ (b2 ++ []))) := ((List.sublist_append_left _ _).trans (List.sublist_append_right _ _))
  refine (MFn.next (markStringS_m x.codes _ (by omega) (by omega) (by omega)) (bs := b1) (us := [u1]) HT1.out (by simpa using VRs.cons V1.out .nil) (HND.out.sublist hsub1) (fun k hk => HUN.out k (hsub1.subset hk)) (by have := HND.out; simp only [List.append_nil, List.nodup_append, List.mem_append, ne_eq] at this; intro k hk hk2; simp only [List.append_nil, List.nil_append, List.mem_append] at hk hk2; grind)).mono ?_
  rintro e w2 ⟨rfl, ht2, hT2⟩
  have HT2 := Lib.hid hT2
  have hb2_2 : w2.cell? ⟨w.heap.size, 2, none⟩ = some u2 := by rw [cell_of_heap (ht2.block _ (lt_of_cell hb1_2) (fun hm => absurd (HIN.out _ (hsub1.subset hm)) (Nat.lt_irrefl _)))]; exact hb1_2
  clear ht2 hT2
  go_wp2_with fail
  have hsub2 : List.Sublist b2 (b0 ++ (b1 ++ (b2 ++ []))) := (((List.sublist_append_left _ _).trans (List.sublist_append_right _ _)).trans (List.sublist_append_right _ _))
  refine (MFn.next (markArcS_m x.arcs _ (by omega) (by omega) (by omega)) (bs := b2) (us := [u2]) HT2.out (by simpa using VRs.cons V2.out .nil) (HND.out.sublist hsub2) (fun k hk => HUN.out k (hsub2.subset hk)) (by have := HND.out; simp only [List.append_nil, List.nodup_append, List.mem_append, ne_eq] at this; intro k hk hk2; simp only [List.append_nil, List.nil_append, List.mem_append] at hk hk2; grind)).mono ?_
  rintro e w3 ⟨rfl, ht3, hT3⟩
  have HT3 := Lib.hid hT3
  clear ht3 hT3
  go_wp2
  go_ret
  exact ⟨ret_int (by omega), HT3.out.mono (fun k hk => by simp only [List.append_nil, List.nil_append, List.mem_append] at hk ⊢; grind), fun l h => by cases h⟩
end Go.Proofs.Ytcbfpeplcbgpjaa
