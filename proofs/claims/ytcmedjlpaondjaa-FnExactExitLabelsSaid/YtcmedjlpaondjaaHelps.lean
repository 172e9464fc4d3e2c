/- The laws' helpers sz, to, eq, mark, held, as contracts of the engine. -/
import Derived.Test.YtcmedjlpaondjaaMarkV
import Derived.Test.YtcmedjlpaondjaaSz
import Derived.Test.YtcmedjlpaondjaaTo
import Derived.Test.YtcmedjlpaondjaaEq
set_option linter.unusedSimpArgs false
set_option linter.unusedVariables false
namespace Go.Proofs.Ytcmedjlpaondjaa
open Go.ChangeShapes Go.WideShapes Go.ChangeAt Go.RowKit

theorem toIntS_f (x : (List Int)) (hz : szInts x ≤ 1048576) : Fn Try.prog 15 [.sh 1 (ints x)] (.own 0) [.fr 1 (ints x)] := by
  refine Fn.of_fr1 (x := x) (br_sl br_int) rfl (plain_of Try.func15 (by kernel_rfl) (by kernel_rfl)) fun w us h => ?_
  obtain ⟨u, rfl, h1⟩ := vxs_one h
  have hR0 := ((br_sl br_int)).of_vxs (x := x) rfl (.cons h1 .nil)
  obtain ⟨a0, c0, e0⟩ : ∃ a c, u = .slice a x.length c := by obtain ⟨_, a, c, h, _⟩ := hR0; exact ⟨a, c, by simpa using h⟩
  subst e0
  exact (toIntS_c w _ _ x hR0 hz).mono fun e w' ⟨_, _, he, hf, hx⟩ => ⟨_, he, hf, hx⟩

theorem eqIntS_f (x : (List Int)) : Fn Try.prog 17 [.sh 1 (ints x), .sh 1 (ints x)] (.lit (.bool true)) [] := by
  refine Fn.of_lit trivial (plain_of Try.func17 (by kernel_rfl) (by kernel_rfl)) fun w us h => ?_
  obtain ⟨u, us', rfl, h1, h2⟩ := vxs_cons h
  obtain ⟨u2, rfl, h3⟩ := vxs_one h2
  have hR0 := ((br_sl br_int)).of_vxs (x := x) rfl (.cons h1 .nil)
  obtain ⟨a0, c0, e0⟩ : ∃ a c, u = .slice a x.length c := by obtain ⟨_, a, c, h, _⟩ := hR0; exact ⟨a, c, by simpa using h⟩
  subst e0
  have hR1 := ((br_sl br_int)).of_vxs (x := x) rfl (.cons h3 .nil)
  obtain ⟨a1, c1, e1⟩ : ∃ a c, u2 = .slice a x.length c := by obtain ⟨_, a, c, h, _⟩ := hR1; exact ⟨a, c, by simpa using h⟩
  subst e1
  exact eqIntS_c w _ _ _ _ x hR0 hR1

theorem szStringS_f (x : (List ByteArray)) (left : Int) (h0 : 0 ≤ left) (hl : left ≤ 1048576) : Fn Try.prog 33 [.sh 1 (strs x), .lit (.int .i64 left)] (.lit (.int .i64 (lessen left (szStrs x)))) [] := by
  refine Fn.of_lit (litOk_i64.2 (by unfold lessen; split <;> omega)) (plain_of Try.func33 (by kernel_rfl) (by kernel_rfl)) fun w us h => ?_
  obtain ⟨u, us', rfl, h1, h2⟩ := vxs_cons h
  obtain ⟨u2, rfl, h3⟩ := vxs_one h2
  obtain ⟨rfl, _⟩ := h3.lit_inv
  have hR0 := ((br_sl br_str)).of_vxs (x := x) rfl (.cons h1 .nil)
  obtain ⟨a0, c0, e0⟩ : ∃ a c, u = .slice a x.length c := by obtain ⟨_, a, c, h, _⟩ := hR0; exact ⟨a, c, by simpa using h⟩
  subst e0
  exact szStringS_c w _ _ x left hR0 h0 hl

theorem toStringS_f (x : (List ByteArray)) (hz : szStrs x ≤ 1048576) : Fn Try.prog 40 [.sh 1 (strs x)] (.own 0) [.fr 1 (strs x)] := by
  refine Fn.of_fr1 (x := x) (br_sl br_str) rfl (plain_of Try.func40 (by kernel_rfl) (by kernel_rfl)) fun w us h => ?_
  obtain ⟨u, rfl, h1⟩ := vxs_one h
  have hR0 := ((br_sl br_str)).of_vxs (x := x) rfl (.cons h1 .nil)
  obtain ⟨a0, c0, e0⟩ : ∃ a c, u = .slice a x.length c := by obtain ⟨_, a, c, h, _⟩ := hR0; exact ⟨a, c, by simpa using h⟩
  subst e0
  exact (toStringS_c w _ _ x hR0 hz).mono fun e w' ⟨_, _, he, hf, hx⟩ => ⟨_, he, hf, hx⟩

theorem eqStringS_f (x : (List ByteArray)) : Fn Try.prog 47 [.sh 1 (strs x), .sh 1 (strs x)] (.lit (.bool true)) [] := by
  refine Fn.of_lit trivial (plain_of Try.func47 (by kernel_rfl) (by kernel_rfl)) fun w us h => ?_
  obtain ⟨u, us', rfl, h1, h2⟩ := vxs_cons h
  obtain ⟨u2, rfl, h3⟩ := vxs_one h2
  have hR0 := ((br_sl br_str)).of_vxs (x := x) rfl (.cons h1 .nil)
  obtain ⟨a0, c0, e0⟩ : ∃ a c, u = .slice a x.length c := by obtain ⟨_, a, c, h, _⟩ := hR0; exact ⟨a, c, by simpa using h⟩
  subst e0
  have hR1 := ((br_sl br_str)).of_vxs (x := x) rfl (.cons h3 .nil)
  obtain ⟨a1, c1, e1⟩ : ∃ a c, u2 = .slice a x.length c := by obtain ⟨_, a, c, h, _⟩ := hR1; exact ⟨a, c, by simpa using h⟩
  subst e1
  exact eqStringS_c w _ _ _ _ x hR0 hR1

theorem szSignalS_f (x : (List Sig)) (left : Int) (h0 : 0 ≤ left) (hl : left ≤ 1048576) : Fn Try.prog 32 [.sh 2 (x.map dSig), .lit (.int .i64 left)] (.lit (.int .i64 (lessen left (szSigs x)))) [] := by
  refine Fn.of_lit (litOk_i64.2 (by unfold lessen; split <;> omega)) (plain_of Try.func32 (by kernel_rfl) (by kernel_rfl)) fun w us h => ?_
  obtain ⟨u, us', rfl, h1, h2⟩ := vxs_cons h
  obtain ⟨u2, rfl, h3⟩ := vxs_one h2
  obtain ⟨rfl, _⟩ := h3.lit_inv
  have hR0 := ((br_sl br_Sig)).of_vxs (x := x) rfl (.cons h1 .nil)
  obtain ⟨a0, c0, e0⟩ : ∃ a c, u = .slice a x.length c := by obtain ⟨_, a, c, h, _⟩ := hR0; exact ⟨a, c, by simpa using h⟩
  subst e0
  exact szSignalS_c w _ _ x left hR0 h0 hl

theorem toSignalS_f (x : (List Sig)) (hz : szSigs x ≤ 1048576) : Fn Try.prog 39 [.sh 2 (x.map dSig)] (.own 0) [.fr 2 (x.map dSig)] := by
  refine Fn.of_fr1 (x := x) (br_sl br_Sig) rfl (plain_of Try.func39 (by kernel_rfl) (by kernel_rfl)) fun w us h => ?_
  obtain ⟨u, rfl, h1⟩ := vxs_one h
  have hR0 := ((br_sl br_Sig)).of_vxs (x := x) rfl (.cons h1 .nil)
  obtain ⟨a0, c0, e0⟩ : ∃ a c, u = .slice a x.length c := by obtain ⟨_, a, c, h, _⟩ := hR0; exact ⟨a, c, by simpa using h⟩
  subst e0
  exact (toSignalS_c w _ _ x hR0 hz).mono fun e w' ⟨_, _, he, hf, hx⟩ => ⟨_, he, hf, hx⟩

theorem eqSignalS_f (x : (List Sig)) : Fn Try.prog 46 [.sh 2 (x.map dSig), .sh 2 (x.map dSig)] (.lit (.bool true)) [] := by
  refine Fn.of_lit trivial (plain_of Try.func46 (by kernel_rfl) (by kernel_rfl)) fun w us h => ?_
  obtain ⟨u, us', rfl, h1, h2⟩ := vxs_cons h
  obtain ⟨u2, rfl, h3⟩ := vxs_one h2
  have hR0 := ((br_sl br_Sig)).of_vxs (x := x) rfl (.cons h1 .nil)
  obtain ⟨a0, c0, e0⟩ : ∃ a c, u = .slice a x.length c := by obtain ⟨_, a, c, h, _⟩ := hR0; exact ⟨a, c, by simpa using h⟩
  subst e0
  have hR1 := ((br_sl br_Sig)).of_vxs (x := x) rfl (.cons h3 .nil)
  obtain ⟨a1, c1, e1⟩ : ∃ a c, u2 = .slice a x.length c := by obtain ⟨_, a, c, h, _⟩ := hR1; exact ⟨a, c, by simpa using h⟩
  subst e1
  exact eqSignalS_c w _ _ _ _ x hR0 hR1

theorem eqLabelS_f (x : (List Lab)) : Fn Try.prog 20 [.sh 2 (x.map dLab), .sh 2 (x.map dLab)] (.lit (.bool true)) [] := by
  refine Fn.of_lit trivial (plain_of Try.func20 (by kernel_rfl) (by kernel_rfl)) fun w us h => ?_
  obtain ⟨u, us', rfl, h1, h2⟩ := vxs_cons h
  obtain ⟨u2, rfl, h3⟩ := vxs_one h2
  have hR0 := ((br_sl br_Lab)).of_vxs (x := x) rfl (.cons h1 .nil)
  obtain ⟨a0, c0, e0⟩ : ∃ a c, u = .slice a x.length c := by obtain ⟨_, a, c, h, _⟩ := hR0; exact ⟨a, c, by simpa using h⟩
  subst e0
  have hR1 := ((br_sl br_Lab)).of_vxs (x := x) rfl (.cons h3 .nil)
  obtain ⟨a1, c1, e1⟩ : ∃ a c, u2 = .slice a x.length c := by obtain ⟨_, a, c, h, _⟩ := hR1; exact ⟨a, c, by simpa using h⟩
  subst e1
  exact eqLabelS_c w _ _ _ _ x hR0 hR1

theorem szArcS_f (x : (List ArcD)) (left : Int) (h0 : 0 ≤ left) (hl : left ≤ 1048576) : Fn Try.prog 34 [.sh 4 (x.map dArcD), .lit (.int .i64 left)] (.lit (.int .i64 (lessen left (szArcDs x)))) [] := by
  refine Fn.of_lit (litOk_i64.2 (by unfold lessen; split <;> omega)) (plain_of Try.func34 (by kernel_rfl) (by kernel_rfl)) fun w us h => ?_
  obtain ⟨u, us', rfl, h1, h2⟩ := vxs_cons h
  obtain ⟨u2, rfl, h3⟩ := vxs_one h2
  obtain ⟨rfl, _⟩ := h3.lit_inv
  have hR0 := ((br_sl br_ArcD)).of_vxs (x := x) rfl (.cons h1 .nil)
  obtain ⟨a0, c0, e0⟩ : ∃ a c, u = .slice a x.length c := by obtain ⟨_, a, c, h, _⟩ := hR0; exact ⟨a, c, by simpa using h⟩
  subst e0
  exact szArcS_c w _ _ x left hR0 h0 hl

theorem toArcS_f (x : (List ArcD)) (hz : szArcDs x ≤ 1048576) : Fn Try.prog 41 [.sh 4 (x.map dArcD)] (.own 0) [.fr 4 (x.map dArcD)] := by
  refine Fn.of_fr1 (x := x) (br_sl br_ArcD) rfl (plain_of Try.func41 (by kernel_rfl) (by kernel_rfl)) fun w us h => ?_
  obtain ⟨u, rfl, h1⟩ := vxs_one h
  have hR0 := ((br_sl br_ArcD)).of_vxs (x := x) rfl (.cons h1 .nil)
  obtain ⟨a0, c0, e0⟩ : ∃ a c, u = .slice a x.length c := by obtain ⟨_, a, c, h, _⟩ := hR0; exact ⟨a, c, by simpa using h⟩
  subst e0
  exact (toArcS_c w _ _ x hR0 hz).mono fun e w' ⟨_, _, he, hf, hx⟩ => ⟨_, he, hf, hx⟩

theorem eqArcS_f (x : (List ArcD)) : Fn Try.prog 48 [.sh 4 (x.map dArcD), .sh 4 (x.map dArcD)] (.lit (.bool true)) [] := by
  refine Fn.of_lit trivial (plain_of Try.func48 (by kernel_rfl) (by kernel_rfl)) fun w us h => ?_
  obtain ⟨u, us', rfl, h1, h2⟩ := vxs_cons h
  obtain ⟨u2, rfl, h3⟩ := vxs_one h2
  have hR0 := ((br_sl br_ArcD)).of_vxs (x := x) rfl (.cons h1 .nil)
  obtain ⟨a0, c0, e0⟩ : ∃ a c, u = .slice a x.length c := by obtain ⟨_, a, c, h, _⟩ := hR0; exact ⟨a, c, by simpa using h⟩
  subst e0
  have hR1 := ((br_sl br_ArcD)).of_vxs (x := x) rfl (.cons h3 .nil)
  obtain ⟨a1, c1, e1⟩ : ∃ a c, u2 = .slice a x.length c := by obtain ⟨_, a, c, h, _⟩ := hR1; exact ⟨a, c, by simpa using h⟩
  subst e1
  exact eqArcS_c w _ _ _ _ x hR0 hR1

theorem szSignal_f (x : Sig) (left : Int) (h0 : 0 ≤ left) (hl : left ≤ 1048576) : Fn Try.prog 79 [.agg (dSig x), .lit (.int .i64 left)] (.lit (.int .i64 (lessen left (szSig x)))) [] := by
  refine Fn.of_lit (litOk_i64.2 (by unfold lessen; split <;> omega)) (plain_of Try.func79 (by kernel_rfl) (by kernel_rfl)) fun w us h => ?_
  obtain ⟨u, us', rfl, h1, h2⟩ := vxs_cons h
  obtain ⟨u2, rfl, h3⟩ := vxs_one h2
  obtain ⟨rfl, _⟩ := h3.lit_inv
  obtain ⟨us0, rfl, q0⟩ := h1.agg_inv
  have hR0 := br_Sig.of_vxs rfl q0
  obtain rfl := shape_Sig hR0
  exact szSignal_c w x left hR0 h0 hl

theorem toSignal_f (x : Sig) (hz : szSig x ≤ 1048576) : Fn Try.prog 90 [.agg (dSig x)] (.agg [.lit (.string x.name), .lit (.int .i64 x.kind)]) [] := by
  refine Fn.of_fr (x := x) br_Sig rfl (plain_of Try.func90 (by kernel_rfl) (by kernel_rfl)) fun w us h => ?_
  obtain ⟨u, rfl, h1⟩ := vxs_one h
  obtain ⟨us0, rfl, q0⟩ := h1.agg_inv
  have hR0 := br_Sig.of_vxs rfl q0
  obtain rfl := shape_Sig hR0
  exact (toSignal_c w x hR0 hz).mono fun e w' ⟨he, hf, hx⟩ => ⟨_, he, hf, hx⟩

theorem eqSignal_f (x : Sig) : Fn Try.prog 100 [.agg (dSig x), .agg (dSig x)] (.lit (.bool true)) [] := by
  refine Fn.of_lit trivial (plain_of Try.func100 (by kernel_rfl) (by kernel_rfl)) fun w us h => ?_
  obtain ⟨u, us', rfl, h1, h2⟩ := vxs_cons h
  obtain ⟨u2, rfl, h3⟩ := vxs_one h2
  obtain ⟨us0, rfl, q0⟩ := h1.agg_inv
  have hR0 := br_Sig.of_vxs rfl q0
  obtain rfl := shape_Sig hR0
  obtain ⟨us1, rfl, q1⟩ := h3.agg_inv
  have hR1 := br_Sig.of_vxs rfl q1
  obtain rfl := shape_Sig hR1
  exact eqSignal_c w x hR0 hR1

theorem eqLabel_f (x : Lab) : Fn Try.prog 66 [.agg (dLab x), .agg (dLab x)] (.lit (.bool true)) [] := by
  refine Fn.of_lit trivial (plain_of Try.func66 (by kernel_rfl) (by kernel_rfl)) fun w us h => ?_
  obtain ⟨u, us', rfl, h1, h2⟩ := vxs_cons h
  obtain ⟨u2, rfl, h3⟩ := vxs_one h2
  obtain ⟨us0, rfl, q0⟩ := h1.agg_inv
  have hR0 := br_Lab.of_vxs rfl q0
  obtain rfl := shape_Lab hR0
  obtain ⟨us1, rfl, q1⟩ := h3.agg_inv
  have hR1 := br_Lab.of_vxs rfl q1
  obtain rfl := shape_Lab hR1
  exact eqLabel_c w x hR0 hR1

theorem toArc_f (x : ArcD) : Fn Try.prog 91 [.agg (dArcD x)] (.agg [.lit (.int .i64 x.src), .lit (.int .i64 x.sig), .lit (.bool x.up), .lit (.int .i64 x.dst)]) [] := by
  refine Fn.of_fr (x := x) br_ArcD rfl (plain_of Try.func91 (by kernel_rfl) (by kernel_rfl)) fun w us h => ?_
  obtain ⟨u, rfl, h1⟩ := vxs_one h
  obtain ⟨us0, rfl, q0⟩ := h1.agg_inv
  have hR0 := br_ArcD.of_vxs rfl q0
  obtain rfl := shape_ArcD hR0
  exact (toArc_c w x hR0).mono fun e w' ⟨he, hf, hx⟩ => ⟨_, he, hf, hx⟩

theorem eqArc_f (x : ArcD) : Fn Try.prog 101 [.agg (dArcD x), .agg (dArcD x)] (.lit (.bool true)) [] := by
  refine Fn.of_lit trivial (plain_of Try.func101 (by kernel_rfl) (by kernel_rfl)) fun w us h => ?_
  obtain ⟨u, us', rfl, h1, h2⟩ := vxs_cons h
  obtain ⟨u2, rfl, h3⟩ := vxs_one h2
  obtain ⟨us0, rfl, q0⟩ := h1.agg_inv
  have hR0 := br_ArcD.of_vxs rfl q0
  obtain rfl := shape_ArcD hR0
  obtain ⟨us1, rfl, q1⟩ := h3.agg_inv
  have hR1 := br_ArcD.of_vxs rfl q1
  obtain rfl := shape_ArcD hR1
  exact eqArc_c w x hR0 hR1

theorem szStateGraph_f (x : SGraph) (left : Int) (h0 : 0 ≤ left) (hl : left ≤ 1048576) : Fn Try.prog 8 [.agg (dSGraph x), .lit (.int .i64 left)] (.lit (.int .i64 (lessen left (szSGraph x)))) [] := by
  refine Fn.of_lit (litOk_i64.2 (by unfold lessen; split <;> omega)) (plain_of Try.func8 (by kernel_rfl) (by kernel_rfl)) fun w us h => ?_
  obtain ⟨u, us', rfl, h1, h2⟩ := vxs_cons h
  obtain ⟨u2, rfl, h3⟩ := vxs_one h2
  obtain ⟨rfl, _⟩ := h3.lit_inv
  obtain ⟨us0, rfl, q0⟩ := h1.agg_inv
  have hR0 := br_SGraph.of_vxs rfl q0
  obtain ⟨a0_0, c0_0, a0_1, c0_1, a0_2, c0_2, rfl⟩ := shape_SGraph hR0
  exact szStateGraph_c w _ _ _ _ _ _ x left hR0 h0 hl

theorem toStateGraph_f (x : SGraph) (hz : szSGraph x ≤ 1048576) : Fn Try.prog 10 [.agg (dSGraph x)] (.agg [.own 0, .own 1, .own 2]) [.fr 2 (x.signals.map dSig), .fr 1 (strs x.codes), .fr 4 (x.arcs.map dArcD)] := by
  refine Fn.of_fr (x := x) br_SGraph rfl (plain_of Try.func10 (by kernel_rfl) (by kernel_rfl)) fun w us h => ?_
  obtain ⟨u, rfl, h1⟩ := vxs_one h
  obtain ⟨us0, rfl, q0⟩ := h1.agg_inv
  have hR0 := br_SGraph.of_vxs rfl q0
  obtain ⟨a0_0, c0_0, a0_1, c0_1, a0_2, c0_2, rfl⟩ := shape_SGraph hR0
  exact (toStateGraph_c w _ _ _ _ _ _ x hR0 hz).mono fun e w' ⟨_, _, _, _, _, _, he, hf, hx⟩ => ⟨_, he, hf, hx⟩

theorem eqStateGraph_f (x : SGraph) : Fn Try.prog 13 [.agg (dSGraph x), .agg (dSGraph x)] (.lit (.bool true)) [] := by
  refine Fn.of_lit trivial (plain_of Try.func13 (by kernel_rfl) (by kernel_rfl)) fun w us h => ?_
  obtain ⟨u, us', rfl, h1, h2⟩ := vxs_cons h
  obtain ⟨u2, rfl, h3⟩ := vxs_one h2
  obtain ⟨us0, rfl, q0⟩ := h1.agg_inv
  have hR0 := br_SGraph.of_vxs rfl q0
  obtain ⟨a0_0, c0_0, a0_1, c0_1, a0_2, c0_2, rfl⟩ := shape_SGraph hR0
  obtain ⟨us1, rfl, q1⟩ := h3.agg_inv
  have hR1 := br_SGraph.of_vxs rfl q1
  obtain ⟨a1_0, c1_0, a1_1, c1_1, a1_2, c1_2, rfl⟩ := shape_SGraph hR1
  exact eqStateGraph_c w _ _ _ _ _ _ _ _ _ _ _ _ x hR0 hR1

theorem toPersistencyViolation_f (x : PViol) : Fn Try.prog 11 [.agg (dPViol x)] (.agg [.lit (.int .i64 x.state), .lit (.int .i64 x.sig), .lit (.int .i64 x.by_)]) [] := by
  refine Fn.of_fr (x := x) br_PViol rfl (plain_of Try.func11 (by kernel_rfl) (by kernel_rfl)) fun w us h => ?_
  obtain ⟨u, rfl, h1⟩ := vxs_one h
  obtain ⟨us0, rfl, q0⟩ := h1.agg_inv
  have hR0 := br_PViol.of_vxs rfl q0
  obtain rfl := shape_PViol hR0
  exact (toPersistencyViolation_c w x hR0).mono fun e w' ⟨he, hf, hx⟩ => ⟨_, he, hf, hx⟩

theorem markIntS_m (l : (List Int)) (k0 : Int) (h0 : 0 ≤ k0) (h1 : k0 ≤ 1000000000000) (hl : l.length ≤ 1048576) : MFn Try.prog 22 false [.sh 1 (ints l)] k0 (k0 + ((l.length * 1 : Nat) : Int)) (some [.sh 1 (mrows 1 fInt l.length k0)]) :=
  mfn_flat (m := 1) br_int rfl (by intro x d hd; simp at hd; subst hd; rfl) (plain_of Try.func22 (by kernel_rfl) (by kernel_rfl)) (mvals_all (fun i q hi h2 h3 => by
    match i, hi with
    | _, _ => exact litOk_i64.2 (by omega))) (litOk_i64.2 (by omega)) fun w a c bs h hu => markIntS_c w a c l bs k0 h hu h0 (by omega) hl

theorem heldIntS_f (n : Nat) (k0 : Int) (h0 : 0 ≤ k0) (h1 : k0 ≤ 1000000000000) (hl : n ≤ 1048576) : Fn Try.prog 78 [.sh 1 (mrows 1 fInt n k0), .lit (.int .i64 k0)] (.lit (.int .i64 (k0 + ((n * 1 : Nat) : Int)))) [] :=
  held_flat (plain_of Try.func78 (by kernel_rfl) (by kernel_rfl)) (litOk_i64.2 (by omega)) fun w a c h => heldIntS_c w a c n k0 h h0 (by omega) hl

theorem markStringS_m (l : (List ByteArray)) (k0 : Int) (h0 : 0 ≤ k0) (h1 : k0 ≤ 1000000000000) (hl : l.length ≤ 1048576) : MFn Try.prog 68 false [.sh 1 (strs l)] k0 (k0 + ((l.length * 1 : Nat) : Int)) (some [.sh 1 (mrows 1 fStr l.length k0)]) :=
  mfn_flat (m := 1) br_str rfl (by intro x d hd; simp at hd; subst hd; rfl) (plain_of Try.func68 (by kernel_rfl) (by kernel_rfl)) (mvals_all (fun i q hi h2 h3 => by
    match i, hi with
    | _, _ => (have := markStr_size q; show (markStr q).size ≤ 9223372036854775807; omega))) (litOk_i64.2 (by omega)) fun w a c bs h hu => markStringS_c w a c l bs k0 h hu h0 (by omega) hl

theorem markSignalS_m (l : (List Sig)) (k0 : Int) (h0 : 0 ≤ k0) (h1 : k0 ≤ 1000000000000) (hl : l.length ≤ 1048576) : MFn Try.prog 67 false [.sh 2 (l.map dSig)] k0 (k0 + ((l.length * 2 : Nat) : Int)) (some [.sh 2 (mrows 2 fSig l.length k0)]) :=
  mfn_flat (m := 2) br_Sig rfl (by intro x d hd; simp [dSig] at hd; rcases hd with rfl | rfl <;> rfl) (plain_of Try.func67 (by kernel_rfl) (by kernel_rfl)) (mvals_all (fun i q hi h2 h3 => by
    match i, hi with
    | 0, _ => (have := markStr_size q; show (markStr q).size ≤ 9223372036854775807; omega)
    | 1, _ => exact litOk_i64.2 (by omega))) (litOk_i64.2 (by omega)) fun w a c bs h hu => markSignalS_c w a c l bs k0 h hu h0 (by omega) hl

theorem markLabelS_m (l : (List Lab)) (k0 : Int) (h0 : 0 ≤ k0) (h1 : k0 ≤ 1000000000000) (hl : l.length ≤ 1048576) : MFn Try.prog 23 false [.sh 2 (l.map dLab)] k0 (k0 + ((l.length * 2 : Nat) : Int)) (some [.sh 2 (mrows 2 fLab l.length k0)]) :=
  mfn_flat (m := 2) br_Lab rfl (by intro x d hd; simp [dLab] at hd; rcases hd with rfl | rfl <;> rfl) (plain_of Try.func23 (by kernel_rfl) (by kernel_rfl)) (mvals_all (fun i q hi h2 h3 => by
    match i, hi with
    | 0, _ => exact litOk_i64.2 (by omega)
    | 1, _ => exact trivial)) (litOk_i64.2 (by omega)) fun w a c bs h hu => markLabelS_c w a c l bs k0 h hu h0 (by omega) hl

theorem heldLabelS_f (n : Nat) (k0 : Int) (h0 : 0 ≤ k0) (h1 : k0 ≤ 1000000000000) (hl : n ≤ 1048576) : Fn Try.prog 24 [.sh 2 (mrows 2 fLab n k0), .lit (.int .i64 k0)] (.lit (.int .i64 (k0 + ((n * 2 : Nat) : Int)))) [] :=
  held_flat (plain_of Try.func24 (by kernel_rfl) (by kernel_rfl)) (litOk_i64.2 (by omega)) fun w a c h => heldLabelS_c w a c n k0 h h0 (by omega) hl

theorem markArcS_m (l : (List ArcD)) (k0 : Int) (h0 : 0 ≤ k0) (h1 : k0 ≤ 1000000000000) (hl : l.length ≤ 1048576) : MFn Try.prog 69 false [.sh 4 (l.map dArcD)] k0 (k0 + ((l.length * 4 : Nat) : Int)) (some [.sh 4 (mrows 4 fArcD l.length k0)]) :=
  mfn_flat (m := 4) br_ArcD rfl (by intro x d hd; simp [dArcD] at hd; rcases hd with rfl | rfl | rfl | rfl <;> rfl) (plain_of Try.func69 (by kernel_rfl) (by kernel_rfl)) (mvals_all (fun i q hi h2 h3 => by
    match i, hi with
    | 0, _ => exact litOk_i64.2 (by omega)
    | 1, _ => exact litOk_i64.2 (by omega)
    | 2, _ => exact trivial
    | 3, _ => exact litOk_i64.2 (by omega))) (litOk_i64.2 (by omega)) fun w a c bs h hu => markArcS_c w a c l bs k0 h hu h0 (by omega) hl

theorem markStateGraph_le (x : SGraph) (hz : szSGraph x ≤ 1048576) : (x.signals.length * 2) ≤ 8388608 ∧ (x.codes.length * 1) ≤ 8388608 ∧ (x.arcs.length * 4) ≤ 8388608 := by
  simp only [szSGraph, szSigs, szStrs, szArcDs] at hz
  refine ⟨by omega, by omega, by omega⟩

set_option maxHeartbeats 800000 in
theorem markStateGraph_m (x : SGraph) (k0 : Int) (h0 : 0 ≤ k0) (h1 : k0 ≤ 1000000000) (hz : szSGraph x ≤ 1048576) : MFn Try.prog 21 true (dSGraph x) k0 (k0 + (((x.signals.length * 2) : Nat) : Int) + (((x.codes.length * 1) : Nat) : Int) + (((x.arcs.length * 4) : Nat) : Int)) none := by
  have hz' := hz
  simp only [szSGraph, szSigs, szStrs, szArcDs] at hz'
  refine ⟨(plain_of Try.func21 (by kernel_rfl) (by kernel_rfl)), litOk_i64.2 (by omega), fun w us bs hv hnd hun => ?_⟩
  obtain ⟨u0, us0, b0, bs0, rfl, rfl, v0, t0⟩ := vrs_cons hv
  obtain ⟨u1, us1, b1, bs1, rfl, rfl, v1, t1⟩ := vrs_cons t0
  obtain ⟨u2, us2, b2, bs2, rfl, rfl, v2, t2⟩ := vrs_cons t1
  obtain ⟨rfl, rfl⟩ := vrs_nil t2
  have HV := Lib.hid hv
  have HND := Lib.hid hnd
  have HUN := Lib.hid hun
  clear hnd hun hv t0 t1 t2
  have HIN : Hid (∀ k ∈ b0 ++ (b1 ++ (b2 ++ [])), k < w.heap.size) := Lib.hid HV.out.inb
  show Calls Try.prog 21 #[.agg #[u0, u1, u2], .int .i64 k0] w _
  have hE0 : Ext w (w.alloc (.cells #[u0, u1, u2] 35)) := (Ext.refl w).alloc _
  have V0 := Lib.hid v0
  have V1 := Lib.hid v1
  have V2 := Lib.hid v2
  clear v0 v1 v2
  go_enter Try.func21, Try.ntmps21
  go_wp2_with fail
  have hsub0 : List.Sublist b0 (b0 ++ (b1 ++ (b2 ++ []))) := (List.sublist_append_left _ _)
  refine (MFn.next (markSignalS_m x.signals _ (by omega) (by omega) (by omega)) (bs := b0) (us := [u0]) ((Turn.of_ext hE0 : Turn [] w _)) (by simpa using VRs.cons V0.out .nil) (HND.out.sublist hsub0) (fun k hk => HUN.out k (hsub0.subset hk)) (by intro k hk hk2; simp at hk2)).mono ?_
  rintro e w1 ⟨rfl, ht1, hT1⟩
  have HT1 := Lib.hid hT1
  have hb1_1 : w1.cell? ⟨w.heap.size, 1, none⟩ = some u1 := by rw [cell_of_heap (ht1.block _ (by simp) (fun hm => absurd (HIN.out _ (hsub0.subset hm)) (Nat.lt_irrefl _)))]; exact World.cell?_alloc_new _ _ _ _
  have hb1_2 : w1.cell? ⟨w.heap.size, 2, none⟩ = some u2 := by rw [cell_of_heap (ht1.block _ (by simp) (fun hm => absurd (HIN.out _ (hsub0.subset hm)) (Nat.lt_irrefl _)))]; exact World.cell?_alloc_new _ _ _ _
  clear ht1 hT1
  go_wp2_with fail
  have hsub1 : List.Sublist b1 (b0 ++ (b1 ++ (b2 ++ []))) := ((List.sublist_append_left _ _).trans (List.sublist_append_right _ _))
  refine (MFn.next (markStringS_m x.codes _ (by omega) (by omega) (by omega)) (bs := b1) (us := [u1]) HT1.out (by simpa using VRs.cons V1.out .nil) (HND.out.sublist hsub1) (fun k hk => HUN.out k (hsub1.subset hk)) (by have := HND.out; simp only [List.append_nil, List.nodup_append, List.mem_append, ne_eq] at this; intro k hk hk2; simp only [List.append_nil, List.nil_append, List.mem_append] at hk hk2; grind)).mono ?_
  rintro e w2 ⟨rfl, ht2, hT2⟩
  have HT2 := Lib.hid hT2
  have hb2_2 : w2.cell? ⟨w.heap.size, 2, none⟩ = some u2 := by rw [cell_of_heap (ht2.block _ (lt_of_cell hb1_2) (fun hm => absurd (HIN.out _ (hsub1.subset hm)) (Nat.lt_irrefl _)))]; exact hb1_2
  clear ht2 hT2
  go_wp2_with fail
  have hsub2 : List.Sublist b2 (b0 ++ (b1 ++ (b2 ++ []))) := (((List.sublist_append_left _ _).trans (List.sublist_append_right _ _)).trans (List.sublist_append_right _ _))
  refine (MFn.next (markArcS_m x.arcs _ (by omega) (by omega) (by omega)) (bs := b2) (us := [u2]) HT2.out (by simpa using VRs.cons V2.out .nil) (HND.out.sublist hsub2) (fun k hk => HUN.out k (hsub2.subset hk)) (by have := HND.out; simp only [List.append_nil, List.nodup_append, List.mem_append, ne_eq] at this; intro k hk hk2; simp only [List.append_nil, List.nil_append, List.mem_append] at hk hk2; grind)).mono ?_
  rintro e w3 ⟨rfl, ht3, hT3⟩
  have HT3 := Lib.hid hT3
  clear ht3 hT3
  go_wp2
  go_ret
  exact ⟨ret_int (by omega), HT3.out.mono (fun k hk => by simp only [List.append_nil, List.nil_append, List.mem_append] at hk ⊢; grind), fun l h => by cases h⟩
end Go.Proofs.Ytcmedjlpaondjaa
