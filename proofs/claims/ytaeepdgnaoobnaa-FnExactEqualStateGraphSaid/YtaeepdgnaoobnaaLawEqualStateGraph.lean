/- The law FnExactEqualStateGraph returns true, for every input. -/
import Derived.Test.YtaeepdgnaoobnaaEqualSG
import Derived.Test.YtaeepdgnaoobnaaRegion
import Derived.Test.YtaeepdgnaoobnaaOpens
namespace Go.Proofs.Ytaeepdgnaoobnaa.fnExactEqualStateGraph
open Go.ChangeShapes Go.WideShapes Go.ChangeAt Go.RowKit

set_option maxHeartbeats 4000000 in
theorem walk (w : World) (a0p0 : Option Addr) (c0p0 : Nat) (a1p0 : Option Addr) (c1p0 : Nat) (a2p0 : Option Addr) (c2p0 : Nat) (x0 : SGraph) (h0 : tSGraph.R w x0 [.slice a0p0 x0.signals.length c0p0, .slice a1p0 x0.codes.length c1p0, .slice a2p0 x0.arcs.length c2p0]) (a0p1 : Option Addr) (c0p1 : Nat) (a1p1 : Option Addr) (c1p1 : Nat) (a2p1 : Option Addr) (c2p1 : Nat) (x1 : SGraph) (h1 : tSGraph.R w x1 [.slice a0p1 x1.signals.length c0p1, .slice a1p1 x1.codes.length c1p1, .slice a2p1 x1.arcs.length c2p1]) :
    Calls Try.prog 8 #[.agg #[.slice a0p0 x0.signals.length c0p0, .slice a1p0 x0.codes.length c1p0, .slice a2p0 x0.arcs.length c2p0], .agg #[.slice a0p1 x1.signals.length c0p1, .slice a1p1 x1.codes.length c1p1, .slice a2p1 x1.arcs.length c2p1]] w fun e w' => e = .returned (.bool true) ∧ Ext w w' := by
  have H0 := Lib.hid h0
  have H1 := Lib.hid h1
  clear h0 h1
  have hE0 : Ext w ((w.alloc (.cells #[.slice a0p0 x0.signals.length c0p0, .slice a1p0 x0.codes.length c1p0, .slice a2p0 x0.arcs.length c2p0] 54)).alloc (.cells #[.slice a0p1 x1.signals.length c0p1, .slice a1p1 x1.codes.length c1p1, .slice a2p1 x1.arcs.length c2p1] 54)) := (Ext.alloc (Ext.alloc (Ext.refl w) _) _)
  go_enter Try.func8, Try.ntmps8
  go_wp2_with fail
  refine (szStateGraph_c _ _ _ _ _ _ _ _ _ (H0.out.ext hE0) (by omega) (by omega)).mono ?_
  rintro e w1 ⟨rfl, hx1⟩
  have hy1 : Ext ((w.alloc (.cells #[.slice a0p0 x0.signals.length c0p0, .slice a1p0 x0.codes.length c1p0, .slice a2p0 x0.arcs.length c2p0] 54)).alloc (.cells #[.slice a0p1 x1.signals.length c0p1, .slice a1p1 x1.codes.length c1p1, .slice a2p1 x1.arcs.length c2p1] 54)) w1 := hx1
  have hE1 := hE0.trans hy1
  have hb_p0_0_1 : w1.cell? ⟨w.heap.size, 0, none⟩ = some (.slice a0p0 x0.signals.length c0p0) := by rw [hy1.cell (by simp only [World.size_alloc]; omega)]; simp
  have hb_p0_1_1 : w1.cell? ⟨w.heap.size, 1, none⟩ = some (.slice a1p0 x0.codes.length c1p0) := by rw [hy1.cell (by simp only [World.size_alloc]; omega)]; simp
  have hb_p0_2_1 : w1.cell? ⟨w.heap.size, 2, none⟩ = some (.slice a2p0 x0.arcs.length c2p0) := by rw [hy1.cell (by simp only [World.size_alloc]; omega)]; simp
  have hb_p1_0_1 : w1.cell? ⟨w.heap.size + 1, 0, none⟩ = some (.slice a0p1 x1.signals.length c0p1) := by rw [hy1.cell (by simp only [World.size_alloc]; omega)]; simp
  have hb_p1_1_1 : w1.cell? ⟨w.heap.size + 1, 1, none⟩ = some (.slice a1p1 x1.codes.length c1p1) := by rw [hy1.cell (by simp only [World.size_alloc]; omega)]; simp
  have hb_p1_2_1 : w1.cell? ⟨w.heap.size + 1, 2, none⟩ = some (.slice a2p1 x1.arcs.length c2p1) := by rw [hy1.cell (by simp only [World.size_alloc]; omega)]; simp
  have hlt_p0_1 := lt_of_cell hb_p0_0_1
  have hlt_p1_1 := lt_of_cell hb_p1_0_1
  by_cases hq0 : 1048576 < ((szSGraph x0 : Nat) : Int)
  · rw [lessen_neg hq0]
    go_wp2
    go_ret
    exact ⟨rfl, hE1⟩
  rw [lessen_pos (by omega)]
  have hz0 : szSGraph x0 ≤ 1048576 := by omega
  go_wp2_with fail
  refine (szStateGraph_c _ _ _ _ _ _ _ _ _ (H1.out.ext hE1) (by omega) (by omega)).mono ?_
  rintro e w2 ⟨rfl, hx2⟩
  have hy2 : Ext w1 w2 := hx2
  have hE2 := hE1.trans hy2
  have hb_p0_0_2 : w2.cell? ⟨w.heap.size, 0, none⟩ = some (.slice a0p0 x0.signals.length c0p0) := by rw [hy2.cell (lt_of_cell hb_p0_0_1)]; exact hb_p0_0_1
  have hb_p0_1_2 : w2.cell? ⟨w.heap.size, 1, none⟩ = some (.slice a1p0 x0.codes.length c1p0) := by rw [hy2.cell (lt_of_cell hb_p0_1_1)]; exact hb_p0_1_1
  have hb_p0_2_2 : w2.cell? ⟨w.heap.size, 2, none⟩ = some (.slice a2p0 x0.arcs.length c2p0) := by rw [hy2.cell (lt_of_cell hb_p0_2_1)]; exact hb_p0_2_1
  have hb_p1_0_2 : w2.cell? ⟨w.heap.size + 1, 0, none⟩ = some (.slice a0p1 x1.signals.length c0p1) := by rw [hy2.cell (lt_of_cell hb_p1_0_1)]; exact hb_p1_0_1
  have hb_p1_1_2 : w2.cell? ⟨w.heap.size + 1, 1, none⟩ = some (.slice a1p1 x1.codes.length c1p1) := by rw [hy2.cell (lt_of_cell hb_p1_1_1)]; exact hb_p1_1_1
  have hb_p1_2_2 : w2.cell? ⟨w.heap.size + 1, 2, none⟩ = some (.slice a2p1 x1.arcs.length c2p1) := by rw [hy2.cell (lt_of_cell hb_p1_2_1)]; exact hb_p1_2_1
  have hlt_p0_2 := lt_of_cell hb_p0_0_2
  have hlt_p1_2 := lt_of_cell hb_p1_0_2
  clear hb_p0_0_1 hb_p0_1_1 hb_p0_2_1 hb_p1_0_1 hb_p1_1_1 hb_p1_2_1 hlt_p0_1 hlt_p1_1
  by_cases hq1 : 1048576 - ((szSGraph x0 : Nat) : Int) < ((szSGraph x1 : Nat) : Int)
  · rw [lessen_neg hq1]
    go_wp2
    go_ret
    exact ⟨rfl, hE2⟩
  rw [lessen_pos (by omega)]
  have hz1 : szSGraph x1 ≤ 1048576 := by omega
  go_wp2_with fail
  refine wp_region_facts (fun i v w => match i with
    | 0 => v = .agg #[.slice a0p0 x0.signals.length c0p0, .slice a1p0 x0.codes.length c1p0, .slice a2p0 x0.arcs.length c2p0]
    | 1 => ∃ a0q0 c0q0 a1q0 c1q0 a2q0 c2q0, v = .agg #[.slice a0q0 x0.signals.length c0q0, .slice a1q0 x0.codes.length c1q0, .slice a2q0 x0.arcs.length c2q0] ∧ tSGraph.R w x0 [.slice a0q0 x0.signals.length c0q0, .slice a1q0 x0.codes.length c1q0, .slice a2q0 x0.arcs.length c2q0]
    | 2 => v = .agg #[.slice a0p1 x1.signals.length c0p1, .slice a1p1 x1.codes.length c1p1, .slice a2p1 x1.arcs.length c2p1]
    | 3 => ∃ a0q1 c0q1 a1q1 c1q1 a2q1 c2q1, v = .agg #[.slice a0q1 x1.signals.length c0q1, .slice a1q1 x1.codes.length c1q1, .slice a2q1 x1.arcs.length c2q1] ∧ tSGraph.R w x1 [.slice a0q1 x1.signals.length c0q1, .slice a1q1 x1.codes.length c1q1, .slice a2q1 x1.arcs.length c2q1]
    | 4 => v = .bool (eqSG x0 x1)
    | _ => v = .bool (eqSG x0 x1)) (by kernel_rfl) (by kernel_rfl) ?_ ?_ ?_
  · intro i v v1 v2 hi hv he
    match i, hv with
    | 0, hv => exact hv
    | 1, ⟨a0q0, c0q0, a1q0, c1q0, a2q0, c2q0, h1, h2⟩ => exact ⟨a0q0, c0q0, a1q0, c1q0, a2q0, c2q0, h1, h2.ext he⟩
    | 2, hv => exact hv
    | 3, ⟨a0q1, c0q1, a1q1, c1q1, a2q1, c2q1, h1, h2⟩ => exact ⟨a0q1, c0q1, a1q1, c1q1, a2q1, c2q1, h1, h2.ext he⟩
    | 4, hv => exact hv
    | _ + 5, hv => exact hv
  · intro i o hi a' w' hx ho hd
    have e_p0_0 : w'.cell? ⟨w.heap.size, 0, none⟩ = some (.slice a0p0 x0.signals.length c0p0) := by rw [hx.cell (lt_of_cell hb_p0_0_2)]; exact hb_p0_0_2
    have e_p0_1 : w'.cell? ⟨w.heap.size, 1, none⟩ = some (.slice a1p0 x0.codes.length c1p0) := by rw [hx.cell (lt_of_cell hb_p0_1_2)]; exact hb_p0_1_2
    have e_p0_2 : w'.cell? ⟨w.heap.size, 2, none⟩ = some (.slice a2p0 x0.arcs.length c2p0) := by rw [hx.cell (lt_of_cell hb_p0_2_2)]; exact hb_p0_2_2
    have e_p1_0 : w'.cell? ⟨w.heap.size + 1, 0, none⟩ = some (.slice a0p1 x1.signals.length c0p1) := by rw [hx.cell (lt_of_cell hb_p1_0_2)]; exact hb_p1_0_2
    have e_p1_1 : w'.cell? ⟨w.heap.size + 1, 1, none⟩ = some (.slice a1p1 x1.codes.length c1p1) := by rw [hx.cell (lt_of_cell hb_p1_1_2)]; exact hb_p1_1_2
    have e_p1_2 : w'.cell? ⟨w.heap.size + 1, 2, none⟩ = some (.slice a2p1 x1.arcs.length c2p1) := by rw [hx.cell (lt_of_cell hb_p1_2_2)]; exact hb_p1_2_2
    match i, hi with
    | 0, hi =>
      cases hi
      have e1 : a'.tmps.getD 2 undef = .pointer (some ⟨w.heap.size, 0, none⟩) := ho 2 (by decide)
      refine wpv_value (v := .agg #[.slice a0p0 x0.signals.length c0p0, .slice a1p0 x0.codes.length c1p0, .slice a2p0 x0.arcs.length c2p0]) ?_ rfl
      simp [go_sem, Act.eval, e1, e_p0_0, e_p0_1, e_p0_2]
    | 1, hi =>
      cases hi
      have e2 : a'.tmps.getD 20 undef = .agg #[.slice a0p0 x0.signals.length c0p0, .slice a1p0 x0.codes.length c1p0, .slice a2p0 x0.arcs.length c2p0] := hd ⟨0, .data⟩ (by simp) rfl _ 20 rfl rfl
      refine wpv_enter (f := 25) (args := #[.agg #[.slice a0p0 x0.signals.length c0p0, .slice a1p0 x0.codes.length c1p0, .slice a2p0 x0.arcs.length c2p0]]) (by simp [go_sem, Act.eval, e2]) ((toStateGraph_c _ _ _ _ _ _ _ _ (H0.out.ext (hE2.trans hx)) hz0).mono ?_)
      rintro e w6 ⟨a0q0, c0q0, a1q0, c1q0, a2q0, c2q0, rfl, hF6, hx6⟩
      exact ⟨_, rfl, hx6, a0q0, c0q0, a1q0, c1q0, a2q0, c2q0, rfl, hF6.R⟩
    | 2, hi =>
      cases hi
      have e1 : a'.tmps.getD 3 undef = .pointer (some ⟨w.heap.size + 1, 0, none⟩) := ho 3 (by decide)
      refine wpv_value (v := .agg #[.slice a0p1 x1.signals.length c0p1, .slice a1p1 x1.codes.length c1p1, .slice a2p1 x1.arcs.length c2p1]) ?_ rfl
      simp [go_sem, Act.eval, e1, e_p1_0, e_p1_1, e_p1_2]
    | 3, hi =>
      cases hi
      have e2 : a'.tmps.getD 22 undef = .agg #[.slice a0p1 x1.signals.length c0p1, .slice a1p1 x1.codes.length c1p1, .slice a2p1 x1.arcs.length c2p1] := hd ⟨2, .data⟩ (by simp) rfl _ 22 rfl rfl
      refine wpv_enter (f := 25) (args := #[.agg #[.slice a0p1 x1.signals.length c0p1, .slice a1p1 x1.codes.length c1p1, .slice a2p1 x1.arcs.length c2p1]]) (by simp [go_sem, Act.eval, e2]) ((toStateGraph_c _ _ _ _ _ _ _ _ (H1.out.ext (hE2.trans hx)) hz1).mono ?_)
      rintro e w6 ⟨a0q1, c0q1, a1q1, c1q1, a2q1, c2q1, rfl, hF6, hx6⟩
      exact ⟨_, rfl, hx6, a0q1, c0q1, a1q1, c1q1, a2q1, c2q1, rfl, hF6.R⟩
    | 4, hi =>
      cases hi
      obtain ⟨a0q0, c0q0, a1q0, c1q0, a2q0, c2q0, e_0, hR_0⟩ : ∃ a0q0 c0q0 a1q0 c1q0 a2q0 c2q0, a'.tmps.getD 21 undef = .agg #[.slice a0q0 x0.signals.length c0q0, .slice a1q0 x0.codes.length c1q0, .slice a2q0 x0.arcs.length c2q0] ∧ tSGraph.R w' x0 [.slice a0q0 x0.signals.length c0q0, .slice a1q0 x0.codes.length c1q0, .slice a2q0 x0.arcs.length c2q0] := hd ⟨1, .data⟩ (by simp) rfl _ 21 rfl rfl
      obtain ⟨a0q1, c0q1, a1q1, c1q1, a2q1, c2q1, e_1, hR_1⟩ : ∃ a0q1 c0q1 a1q1 c1q1 a2q1 c2q1, a'.tmps.getD 23 undef = .agg #[.slice a0q1 x1.signals.length c0q1, .slice a1q1 x1.codes.length c1q1, .slice a2q1 x1.arcs.length c2q1] ∧ tSGraph.R w' x1 [.slice a0q1 x1.signals.length c0q1, .slice a1q1 x1.codes.length c1q1, .slice a2q1 x1.arcs.length c2q1] := hd ⟨3, .data⟩ (by simp) rfl _ 23 rfl rfl
      refine wpv_enter (f := 24) (args := #[.agg #[.slice a0q0 x0.signals.length c0q0, .slice a1q0 x0.codes.length c1q0, .slice a2q0 x0.arcs.length c2q0], .agg #[.slice a0q1 x1.signals.length c0q1, .slice a1q1 x1.codes.length c1q1, .slice a2q1 x1.arcs.length c2q1]]) (by simp [go_sem, Act.eval, e_0, e_1]) ((specEqualStateGraph_c _ _ _ _ _ _ _ x0 (hR_0) _ _ _ _ _ _ x1 (hR_1)).mono ?_)
      rintro e w6 ⟨rfl, hx6⟩
      exact ⟨_, rfl, hx6, rfl⟩
    | 5, hi =>
      cases hi
      have e2 : a'.tmps.getD 24 undef = .bool (eqSG x0 x1) := hd ⟨4, .data⟩ (by simp) rfl _ 24 rfl rfl
      exact wpv_value (v := .bool (eqSG x0 x1)) (by simp [go_sem, Act.eval, e2]) rfl
  intro vs w3 hx3 hv
  have e4 : vs 5 = .bool (eqSG x0 x1) := hv 5 (by decide)
  simp only [fillF, e4, List.setIfInBounds_toArray, List.set]
  clear hv e4
  have hy3 : Ext w2 w3 := hx3
  have hE3 := hE2.trans hy3
  have hb_p0_0_3 : w3.cell? ⟨w.heap.size, 0, none⟩ = some (.slice a0p0 x0.signals.length c0p0) := by rw [hy3.cell (lt_of_cell hb_p0_0_2)]; exact hb_p0_0_2
  have hb_p0_1_3 : w3.cell? ⟨w.heap.size, 1, none⟩ = some (.slice a1p0 x0.codes.length c1p0) := by rw [hy3.cell (lt_of_cell hb_p0_1_2)]; exact hb_p0_1_2
  have hb_p0_2_3 : w3.cell? ⟨w.heap.size, 2, none⟩ = some (.slice a2p0 x0.arcs.length c2p0) := by rw [hy3.cell (lt_of_cell hb_p0_2_2)]; exact hb_p0_2_2
  have hb_p1_0_3 : w3.cell? ⟨w.heap.size + 1, 0, none⟩ = some (.slice a0p1 x1.signals.length c0p1) := by rw [hy3.cell (lt_of_cell hb_p1_0_2)]; exact hb_p1_0_2
  have hb_p1_1_3 : w3.cell? ⟨w.heap.size + 1, 1, none⟩ = some (.slice a1p1 x1.codes.length c1p1) := by rw [hy3.cell (lt_of_cell hb_p1_1_2)]; exact hb_p1_1_2
  have hb_p1_2_3 : w3.cell? ⟨w.heap.size + 1, 2, none⟩ = some (.slice a2p1 x1.arcs.length c2p1) := by rw [hy3.cell (lt_of_cell hb_p1_2_2)]; exact hb_p1_2_2
  have hlt_p0_3 := lt_of_cell hb_p0_0_3
  have hlt_p1_3 := lt_of_cell hb_p1_0_3
  clear hb_p0_0_2 hb_p0_1_2 hb_p0_2_2 hb_p1_0_2 hb_p1_1_2 hb_p1_2_2 hlt_p0_2 hlt_p1_2
  go_wp2_with fail
  refine (toStateGraph_c _ _ _ _ _ _ _ _ (H0.out.ext hE3) hz0).mono ?_
  rintro e w4 ⟨a0x0, c0x0, a1x0, c1x0, a2x0, c2x0, rfl, hF4, hx4⟩
  have hR4 := Lib.hid hF4.R
  clear hF4
  have hy4 : Ext w3 w4 := hx4
  have hE4 := hE3.trans hy4
  have hb_p0_0_4 : w4.cell? ⟨w.heap.size, 0, none⟩ = some (.slice a0p0 x0.signals.length c0p0) := by rw [hy4.cell (lt_of_cell hb_p0_0_3)]; exact hb_p0_0_3
  have hb_p0_1_4 : w4.cell? ⟨w.heap.size, 1, none⟩ = some (.slice a1p0 x0.codes.length c1p0) := by rw [hy4.cell (lt_of_cell hb_p0_1_3)]; exact hb_p0_1_3
  have hb_p0_2_4 : w4.cell? ⟨w.heap.size, 2, none⟩ = some (.slice a2p0 x0.arcs.length c2p0) := by rw [hy4.cell (lt_of_cell hb_p0_2_3)]; exact hb_p0_2_3
  have hb_p1_0_4 : w4.cell? ⟨w.heap.size + 1, 0, none⟩ = some (.slice a0p1 x1.signals.length c0p1) := by rw [hy4.cell (lt_of_cell hb_p1_0_3)]; exact hb_p1_0_3
  have hb_p1_1_4 : w4.cell? ⟨w.heap.size + 1, 1, none⟩ = some (.slice a1p1 x1.codes.length c1p1) := by rw [hy4.cell (lt_of_cell hb_p1_1_3)]; exact hb_p1_1_3
  have hb_p1_2_4 : w4.cell? ⟨w.heap.size + 1, 2, none⟩ = some (.slice a2p1 x1.arcs.length c2p1) := by rw [hy4.cell (lt_of_cell hb_p1_2_3)]; exact hb_p1_2_3
  have hlt_p0_4 := lt_of_cell hb_p0_0_4
  have hlt_p1_4 := lt_of_cell hb_p1_0_4
  clear hb_p0_0_3 hb_p0_1_3 hb_p0_2_3 hb_p1_0_3 hb_p1_1_3 hb_p1_2_3 hlt_p0_3 hlt_p1_3
  have hS0_4 := hR4
  go_wp2_with fail
  refine (toStateGraph_c _ _ _ _ _ _ _ _ (H1.out.ext (hE4.alloc _)) hz1).mono ?_
  rintro e w5 ⟨a0x1, c0x1, a1x1, c1x1, a2x1, c2x1, rfl, hF5, hx5⟩
  have hR5 := Lib.hid hF5.R
  clear hF5
  have hy5 : Ext w4 w5 := ((Ext.refl _).alloc _).trans hx5
  have hE5 := hE4.trans hy5
  have hb_p0_0_5 : w5.cell? ⟨w.heap.size, 0, none⟩ = some (.slice a0p0 x0.signals.length c0p0) := by rw [hy5.cell (lt_of_cell hb_p0_0_4)]; exact hb_p0_0_4
  have hb_p0_1_5 : w5.cell? ⟨w.heap.size, 1, none⟩ = some (.slice a1p0 x0.codes.length c1p0) := by rw [hy5.cell (lt_of_cell hb_p0_1_4)]; exact hb_p0_1_4
  have hb_p0_2_5 : w5.cell? ⟨w.heap.size, 2, none⟩ = some (.slice a2p0 x0.arcs.length c2p0) := by rw [hy5.cell (lt_of_cell hb_p0_2_4)]; exact hb_p0_2_4
  have hb_p1_0_5 : w5.cell? ⟨w.heap.size + 1, 0, none⟩ = some (.slice a0p1 x1.signals.length c0p1) := by rw [hy5.cell (lt_of_cell hb_p1_0_4)]; exact hb_p1_0_4
  have hb_p1_1_5 : w5.cell? ⟨w.heap.size + 1, 1, none⟩ = some (.slice a1p1 x1.codes.length c1p1) := by rw [hy5.cell (lt_of_cell hb_p1_1_4)]; exact hb_p1_1_4
  have hb_p1_2_5 : w5.cell? ⟨w.heap.size + 1, 2, none⟩ = some (.slice a2p1 x1.arcs.length c2p1) := by rw [hy5.cell (lt_of_cell hb_p1_2_4)]; exact hb_p1_2_4
  have hb_x0_0_5 : w5.cell? ⟨w4.heap.size, 0, none⟩ = some (.slice a0x0 x0.signals.length c0x0) := by rw [hx5.cell (by simp)]; exact World.cell?_alloc_new _ _ _ _
  have hb_x0_1_5 : w5.cell? ⟨w4.heap.size, 1, none⟩ = some (.slice a1x0 x0.codes.length c1x0) := by rw [hx5.cell (by simp)]; exact World.cell?_alloc_new _ _ _ _
  have hb_x0_2_5 : w5.cell? ⟨w4.heap.size, 2, none⟩ = some (.slice a2x0 x0.arcs.length c2x0) := by rw [hx5.cell (by simp)]; exact World.cell?_alloc_new _ _ _ _
  have hlt_p0_5 := lt_of_cell hb_p0_0_5
  have hlt_p1_5 := lt_of_cell hb_p1_0_5
  have hlt_x0_5 := lt_of_cell hb_x0_0_5
  clear hb_p0_0_4 hb_p0_1_4 hb_p0_2_4 hb_p1_0_4 hb_p1_1_4 hb_p1_2_4 hlt_p0_4 hlt_p1_4
  have hS0_5 := Lib.hid (hS0_4.out.ext hy5)
  have hS1_5 := hR5
  go_wp2_with fail
  refine (EqualStateGraph_c _ _ _ _ _ _ _ x0 ((hS0_5.out.ext ((Ext.refl _).alloc _))) _ _ _ _ _ _ x1 ((hS1_5.out.ext ((Ext.refl _).alloc _)))).mono ?_
  rintro e w6 ⟨rfl, hx6⟩
  have hy6 : Ext w5 w6 := ((Ext.refl _).alloc _).trans hx6
  have hE6 := hE5.trans hy6
  have hb_p0_0_6 : w6.cell? ⟨w.heap.size, 0, none⟩ = some (.slice a0p0 x0.signals.length c0p0) := by rw [hy6.cell (lt_of_cell hb_p0_0_5)]; exact hb_p0_0_5
  have hb_p0_1_6 : w6.cell? ⟨w.heap.size, 1, none⟩ = some (.slice a1p0 x0.codes.length c1p0) := by rw [hy6.cell (lt_of_cell hb_p0_1_5)]; exact hb_p0_1_5
  have hb_p0_2_6 : w6.cell? ⟨w.heap.size, 2, none⟩ = some (.slice a2p0 x0.arcs.length c2p0) := by rw [hy6.cell (lt_of_cell hb_p0_2_5)]; exact hb_p0_2_5
  have hb_p1_0_6 : w6.cell? ⟨w.heap.size + 1, 0, none⟩ = some (.slice a0p1 x1.signals.length c0p1) := by rw [hy6.cell (lt_of_cell hb_p1_0_5)]; exact hb_p1_0_5
  have hb_p1_1_6 : w6.cell? ⟨w.heap.size + 1, 1, none⟩ = some (.slice a1p1 x1.codes.length c1p1) := by rw [hy6.cell (lt_of_cell hb_p1_1_5)]; exact hb_p1_1_5
  have hb_p1_2_6 : w6.cell? ⟨w.heap.size + 1, 2, none⟩ = some (.slice a2p1 x1.arcs.length c2p1) := by rw [hy6.cell (lt_of_cell hb_p1_2_5)]; exact hb_p1_2_5
  have hb_x0_0_6 : w6.cell? ⟨w4.heap.size, 0, none⟩ = some (.slice a0x0 x0.signals.length c0x0) := by rw [hy6.cell (lt_of_cell hb_x0_0_5)]; exact hb_x0_0_5
  have hb_x0_1_6 : w6.cell? ⟨w4.heap.size, 1, none⟩ = some (.slice a1x0 x0.codes.length c1x0) := by rw [hy6.cell (lt_of_cell hb_x0_1_5)]; exact hb_x0_1_5
  have hb_x0_2_6 : w6.cell? ⟨w4.heap.size, 2, none⟩ = some (.slice a2x0 x0.arcs.length c2x0) := by rw [hy6.cell (lt_of_cell hb_x0_2_5)]; exact hb_x0_2_5
  have hb_x1_0_6 : w6.cell? ⟨w5.heap.size, 0, none⟩ = some (.slice a0x1 x1.signals.length c0x1) := by rw [hx6.cell (by simp)]; exact World.cell?_alloc_new _ _ _ _
  have hb_x1_1_6 : w6.cell? ⟨w5.heap.size, 1, none⟩ = some (.slice a1x1 x1.codes.length c1x1) := by rw [hx6.cell (by simp)]; exact World.cell?_alloc_new _ _ _ _
  have hb_x1_2_6 : w6.cell? ⟨w5.heap.size, 2, none⟩ = some (.slice a2x1 x1.arcs.length c2x1) := by rw [hx6.cell (by simp)]; exact World.cell?_alloc_new _ _ _ _
  have hlt_p0_6 := lt_of_cell hb_p0_0_6
  have hlt_p1_6 := lt_of_cell hb_p1_0_6
  have hlt_x0_6 := lt_of_cell hb_x0_0_6
  have hlt_x1_6 := lt_of_cell hb_x1_0_6
  clear hb_p0_0_5 hb_p0_1_5 hb_p0_2_5 hb_p1_0_5 hb_p1_1_5 hb_p1_2_5 hb_x0_0_5 hb_x0_1_5 hb_x0_2_5 hlt_p0_5 hlt_p1_5 hlt_x0_5
  have hS0_6 := Lib.hid (hS0_5.out.ext hy6)
  have hS1_6 := Lib.hid (hS1_5.out.ext hy6)
  go_wp2_with fail
  refine wp_region_facts (fun i v w => match i with
    | 0 => v = .agg #[.slice a0x0 x0.signals.length c0x0, .slice a1x0 x0.codes.length c1x0, .slice a2x0 x0.arcs.length c2x0]
    | 1 => v = .agg #[.slice a0p0 x0.signals.length c0p0, .slice a1p0 x0.codes.length c1p0, .slice a2p0 x0.arcs.length c2p0]
    | 2 => ∃ a0q c0q a1q c1q a2q c2q, v = .agg #[.slice a0q x0.signals.length c0q, .slice a1q x0.codes.length c1q, .slice a2q x0.arcs.length c2q] ∧ tSGraph.R w x0 [.slice a0q x0.signals.length c0q, .slice a1q x0.codes.length c1q, .slice a2q x0.arcs.length c2q]
    | 3 => v = .bool true
    | _ => v = .bool false) (by kernel_rfl) (by kernel_rfl) ?_ ?_ ?_
  · intro i v v1 v2 hi hv he
    match i, hv with
    | 0, hv => exact hv
    | 1, hv => exact hv
    | 2, ⟨a0q, c0q, a1q, c1q, a2q, c2q, h1, h2⟩ => exact ⟨a0q, c0q, a1q, c1q, a2q, c2q, h1, h2.ext he⟩
    | 3, hv => exact hv
    | _ + 4, hv => exact hv
  · intro i o hi a' w' hx ho hd
    have e_x0_0 : w'.cell? ⟨w4.heap.size, 0, none⟩ = some (.slice a0x0 x0.signals.length c0x0) := by rw [hx.cell (lt_of_cell hb_x0_0_6)]; exact hb_x0_0_6
    have e_x0_1 : w'.cell? ⟨w4.heap.size, 1, none⟩ = some (.slice a1x0 x0.codes.length c1x0) := by rw [hx.cell (lt_of_cell hb_x0_1_6)]; exact hb_x0_1_6
    have e_x0_2 : w'.cell? ⟨w4.heap.size, 2, none⟩ = some (.slice a2x0 x0.arcs.length c2x0) := by rw [hx.cell (lt_of_cell hb_x0_2_6)]; exact hb_x0_2_6
    have e_p0_0 : w'.cell? ⟨w.heap.size, 0, none⟩ = some (.slice a0p0 x0.signals.length c0p0) := by rw [hx.cell (lt_of_cell hb_p0_0_6)]; exact hb_p0_0_6
    have e_p0_1 : w'.cell? ⟨w.heap.size, 1, none⟩ = some (.slice a1p0 x0.codes.length c1p0) := by rw [hx.cell (lt_of_cell hb_p0_1_6)]; exact hb_p0_1_6
    have e_p0_2 : w'.cell? ⟨w.heap.size, 2, none⟩ = some (.slice a2p0 x0.arcs.length c2p0) := by rw [hx.cell (lt_of_cell hb_p0_2_6)]; exact hb_p0_2_6
    match i, hi with
    | 0, hi =>
      cases hi
      have e1 : a'.tmps.getD 7 undef = .pointer (some ⟨w4.heap.size, 0, none⟩) := ho 7 (by decide)
      refine wpv_value (v := .agg #[.slice a0x0 x0.signals.length c0x0, .slice a1x0 x0.codes.length c1x0, .slice a2x0 x0.arcs.length c2x0]) ?_ rfl
      simp [go_sem, Act.eval, e1, e_x0_0, e_x0_1, e_x0_2]
    | 1, hi =>
      cases hi
      have e1 : a'.tmps.getD 2 undef = .pointer (some ⟨w.heap.size, 0, none⟩) := ho 2 (by decide)
      refine wpv_value (v := .agg #[.slice a0p0 x0.signals.length c0p0, .slice a1p0 x0.codes.length c1p0, .slice a2p0 x0.arcs.length c2p0]) ?_ rfl
      simp [go_sem, Act.eval, e1, e_p0_0, e_p0_1, e_p0_2]
    | 2, hi =>
      cases hi
      have e2 : a'.tmps.getD 36 undef = .agg #[.slice a0p0 x0.signals.length c0p0, .slice a1p0 x0.codes.length c1p0, .slice a2p0 x0.arcs.length c2p0] := hd ⟨1, .data⟩ (by simp) rfl _ 36 rfl rfl
      refine wpv_enter (f := 25) (args := #[.agg #[.slice a0p0 x0.signals.length c0p0, .slice a1p0 x0.codes.length c1p0, .slice a2p0 x0.arcs.length c2p0]]) (by simp [go_sem, Act.eval, e2]) ((toStateGraph_c _ _ _ _ _ _ _ _ (H0.out.ext (hE6.trans hx)) hz0).mono ?_)
      rintro e w6 ⟨a0q, c0q, a1q, c1q, a2q, c2q, rfl, hF6, hx6⟩
      exact ⟨_, rfl, hx6, a0q, c0q, a1q, c1q, a2q, c2q, rfl, hF6.R⟩
    | 3, hi =>
      cases hi
      have e0 : a'.tmps.getD 35 undef = .agg #[.slice a0x0 x0.signals.length c0x0, .slice a1x0 x0.codes.length c1x0, .slice a2x0 x0.arcs.length c2x0] := hd ⟨0, .data⟩ (by simp) rfl _ 35 rfl rfl
      obtain ⟨a0q, c0q, a1q, c1q, a2q, c2q, e2, hR6⟩ : ∃ a0q c0q a1q c1q a2q c2q, a'.tmps.getD 37 undef = .agg #[.slice a0q x0.signals.length c0q, .slice a1q x0.codes.length c1q, .slice a2q x0.arcs.length c2q] ∧ tSGraph.R w' x0 [.slice a0q x0.signals.length c0q, .slice a1q x0.codes.length c1q, .slice a2q x0.arcs.length c2q] := hd ⟨2, .data⟩ (by simp) rfl _ 37 rfl rfl
      refine wpv_enter (f := 27) (args := #[.agg #[.slice a0x0 x0.signals.length c0x0, .slice a1x0 x0.codes.length c1x0, .slice a2x0 x0.arcs.length c2x0], .agg #[.slice a0q x0.signals.length c0q, .slice a1q x0.codes.length c1q, .slice a2q x0.arcs.length c2q]]) (by simp [go_sem, Act.eval, e0, e2]) ((eqStateGraph_c _ _ _ _ _ _ _ _ _ _ _ _ _ _ (hS0_6.out.ext hx) hR6).mono ?_)
      rintro e w6 ⟨rfl, hx6⟩
      exact ⟨_, rfl, hx6, rfl⟩
    | 4, hi =>
      cases hi
      have e3 : a'.tmps.getD 38 undef = .bool true := hd ⟨3, .data⟩ (by simp) rfl _ 38 rfl rfl
      exact wpv_value (v := .bool false) (by simp [go_sem, Act.eval, e3]) rfl
  intro vs w7 hx7 hv
  have e4 : vs 4 = .bool false := hv 4 (by decide)
  simp only [fillF, e4, List.setIfInBounds_toArray, List.set]
  clear hv e4
  have hy7 : Ext w6 w7 := hx7
  have hE7 := hE6.trans hy7
  have hb_p0_0_7 : w7.cell? ⟨w.heap.size, 0, none⟩ = some (.slice a0p0 x0.signals.length c0p0) := by rw [hy7.cell (lt_of_cell hb_p0_0_6)]; exact hb_p0_0_6
  have hb_p0_1_7 : w7.cell? ⟨w.heap.size, 1, none⟩ = some (.slice a1p0 x0.codes.length c1p0) := by rw [hy7.cell (lt_of_cell hb_p0_1_6)]; exact hb_p0_1_6
  have hb_p0_2_7 : w7.cell? ⟨w.heap.size, 2, none⟩ = some (.slice a2p0 x0.arcs.length c2p0) := by rw [hy7.cell (lt_of_cell hb_p0_2_6)]; exact hb_p0_2_6
  have hb_p1_0_7 : w7.cell? ⟨w.heap.size + 1, 0, none⟩ = some (.slice a0p1 x1.signals.length c0p1) := by rw [hy7.cell (lt_of_cell hb_p1_0_6)]; exact hb_p1_0_6
  have hb_p1_1_7 : w7.cell? ⟨w.heap.size + 1, 1, none⟩ = some (.slice a1p1 x1.codes.length c1p1) := by rw [hy7.cell (lt_of_cell hb_p1_1_6)]; exact hb_p1_1_6
  have hb_p1_2_7 : w7.cell? ⟨w.heap.size + 1, 2, none⟩ = some (.slice a2p1 x1.arcs.length c2p1) := by rw [hy7.cell (lt_of_cell hb_p1_2_6)]; exact hb_p1_2_6
  have hb_x0_0_7 : w7.cell? ⟨w4.heap.size, 0, none⟩ = some (.slice a0x0 x0.signals.length c0x0) := by rw [hy7.cell (lt_of_cell hb_x0_0_6)]; exact hb_x0_0_6
  have hb_x0_1_7 : w7.cell? ⟨w4.heap.size, 1, none⟩ = some (.slice a1x0 x0.codes.length c1x0) := by rw [hy7.cell (lt_of_cell hb_x0_1_6)]; exact hb_x0_1_6
  have hb_x0_2_7 : w7.cell? ⟨w4.heap.size, 2, none⟩ = some (.slice a2x0 x0.arcs.length c2x0) := by rw [hy7.cell (lt_of_cell hb_x0_2_6)]; exact hb_x0_2_6
  have hb_x1_0_7 : w7.cell? ⟨w5.heap.size, 0, none⟩ = some (.slice a0x1 x1.signals.length c0x1) := by rw [hy7.cell (lt_of_cell hb_x1_0_6)]; exact hb_x1_0_6
  have hb_x1_1_7 : w7.cell? ⟨w5.heap.size, 1, none⟩ = some (.slice a1x1 x1.codes.length c1x1) := by rw [hy7.cell (lt_of_cell hb_x1_1_6)]; exact hb_x1_1_6
  have hb_x1_2_7 : w7.cell? ⟨w5.heap.size, 2, none⟩ = some (.slice a2x1 x1.arcs.length c2x1) := by rw [hy7.cell (lt_of_cell hb_x1_2_6)]; exact hb_x1_2_6
  have hlt_p0_7 := lt_of_cell hb_p0_0_7
  have hlt_p1_7 := lt_of_cell hb_p1_0_7
  have hlt_x0_7 := lt_of_cell hb_x0_0_7
  have hlt_x1_7 := lt_of_cell hb_x1_0_7
  clear hb_p0_0_6 hb_p0_1_6 hb_p0_2_6 hb_p1_0_6 hb_p1_1_6 hb_p1_2_6 hb_x0_0_6 hb_x0_1_6 hb_x0_2_6 hb_x1_0_6 hb_x1_1_6 hb_x1_2_6 hlt_p0_6 hlt_p1_6 hlt_x0_6 hlt_x1_6
  have hS0_7 := Lib.hid (hS0_6.out.ext hy7)
  have hS1_7 := Lib.hid (hS1_6.out.ext hy7)
  go_wp2_with fail
  refine wp_region_facts (fun i v w => match i with
    | 0 => v = .agg #[.slice a0x1 x1.signals.length c0x1, .slice a1x1 x1.codes.length c1x1, .slice a2x1 x1.arcs.length c2x1]
    | 1 => v = .agg #[.slice a0p1 x1.signals.length c0p1, .slice a1p1 x1.codes.length c1p1, .slice a2p1 x1.arcs.length c2p1]
    | 2 => ∃ a0q c0q a1q c1q a2q c2q, v = .agg #[.slice a0q x1.signals.length c0q, .slice a1q x1.codes.length c1q, .slice a2q x1.arcs.length c2q] ∧ tSGraph.R w x1 [.slice a0q x1.signals.length c0q, .slice a1q x1.codes.length c1q, .slice a2q x1.arcs.length c2q]
    | 3 => v = .bool true
    | _ => v = .bool false) (by kernel_rfl) (by kernel_rfl) ?_ ?_ ?_
  · intro i v v1 v2 hi hv he
    match i, hv with
    | 0, hv => exact hv
    | 1, hv => exact hv
    | 2, ⟨a0q, c0q, a1q, c1q, a2q, c2q, h1, h2⟩ => exact ⟨a0q, c0q, a1q, c1q, a2q, c2q, h1, h2.ext he⟩
    | 3, hv => exact hv
    | _ + 4, hv => exact hv
  · intro i o hi a' w' hx ho hd
    have e_x1_0 : w'.cell? ⟨w5.heap.size, 0, none⟩ = some (.slice a0x1 x1.signals.length c0x1) := by rw [hx.cell (lt_of_cell hb_x1_0_7)]; exact hb_x1_0_7
    have e_x1_1 : w'.cell? ⟨w5.heap.size, 1, none⟩ = some (.slice a1x1 x1.codes.length c1x1) := by rw [hx.cell (lt_of_cell hb_x1_1_7)]; exact hb_x1_1_7
    have e_x1_2 : w'.cell? ⟨w5.heap.size, 2, none⟩ = some (.slice a2x1 x1.arcs.length c2x1) := by rw [hx.cell (lt_of_cell hb_x1_2_7)]; exact hb_x1_2_7
    have e_p1_0 : w'.cell? ⟨w.heap.size + 1, 0, none⟩ = some (.slice a0p1 x1.signals.length c0p1) := by rw [hx.cell (lt_of_cell hb_p1_0_7)]; exact hb_p1_0_7
    have e_p1_1 : w'.cell? ⟨w.heap.size + 1, 1, none⟩ = some (.slice a1p1 x1.codes.length c1p1) := by rw [hx.cell (lt_of_cell hb_p1_1_7)]; exact hb_p1_1_7
    have e_p1_2 : w'.cell? ⟨w.heap.size + 1, 2, none⟩ = some (.slice a2p1 x1.arcs.length c2p1) := by rw [hx.cell (lt_of_cell hb_p1_2_7)]; exact hb_p1_2_7
    match i, hi with
    | 0, hi =>
      cases hi
      have e1 : a'.tmps.getD 8 undef = .pointer (some ⟨w5.heap.size, 0, none⟩) := ho 8 (by decide)
      refine wpv_value (v := .agg #[.slice a0x1 x1.signals.length c0x1, .slice a1x1 x1.codes.length c1x1, .slice a2x1 x1.arcs.length c2x1]) ?_ rfl
      simp [go_sem, Act.eval, e1, e_x1_0, e_x1_1, e_x1_2]
    | 1, hi =>
      cases hi
      have e1 : a'.tmps.getD 3 undef = .pointer (some ⟨w.heap.size + 1, 0, none⟩) := ho 3 (by decide)
      refine wpv_value (v := .agg #[.slice a0p1 x1.signals.length c0p1, .slice a1p1 x1.codes.length c1p1, .slice a2p1 x1.arcs.length c2p1]) ?_ rfl
      simp [go_sem, Act.eval, e1, e_p1_0, e_p1_1, e_p1_2]
    | 2, hi =>
      cases hi
      have e2 : a'.tmps.getD 41 undef = .agg #[.slice a0p1 x1.signals.length c0p1, .slice a1p1 x1.codes.length c1p1, .slice a2p1 x1.arcs.length c2p1] := hd ⟨1, .data⟩ (by simp) rfl _ 41 rfl rfl
      refine wpv_enter (f := 25) (args := #[.agg #[.slice a0p1 x1.signals.length c0p1, .slice a1p1 x1.codes.length c1p1, .slice a2p1 x1.arcs.length c2p1]]) (by simp [go_sem, Act.eval, e2]) ((toStateGraph_c _ _ _ _ _ _ _ _ (H1.out.ext (hE7.trans hx)) hz1).mono ?_)
      rintro e w6 ⟨a0q, c0q, a1q, c1q, a2q, c2q, rfl, hF6, hx6⟩
      exact ⟨_, rfl, hx6, a0q, c0q, a1q, c1q, a2q, c2q, rfl, hF6.R⟩
    | 3, hi =>
      cases hi
      have e0 : a'.tmps.getD 40 undef = .agg #[.slice a0x1 x1.signals.length c0x1, .slice a1x1 x1.codes.length c1x1, .slice a2x1 x1.arcs.length c2x1] := hd ⟨0, .data⟩ (by simp) rfl _ 40 rfl rfl
      obtain ⟨a0q, c0q, a1q, c1q, a2q, c2q, e2, hR6⟩ : ∃ a0q c0q a1q c1q a2q c2q, a'.tmps.getD 42 undef = .agg #[.slice a0q x1.signals.length c0q, .slice a1q x1.codes.length c1q, .slice a2q x1.arcs.length c2q] ∧ tSGraph.R w' x1 [.slice a0q x1.signals.length c0q, .slice a1q x1.codes.length c1q, .slice a2q x1.arcs.length c2q] := hd ⟨2, .data⟩ (by simp) rfl _ 42 rfl rfl
      refine wpv_enter (f := 27) (args := #[.agg #[.slice a0x1 x1.signals.length c0x1, .slice a1x1 x1.codes.length c1x1, .slice a2x1 x1.arcs.length c2x1], .agg #[.slice a0q x1.signals.length c0q, .slice a1q x1.codes.length c1q, .slice a2q x1.arcs.length c2q]]) (by simp [go_sem, Act.eval, e0, e2]) ((eqStateGraph_c _ _ _ _ _ _ _ _ _ _ _ _ _ _ (hS1_7.out.ext hx) hR6).mono ?_)
      rintro e w6 ⟨rfl, hx6⟩
      exact ⟨_, rfl, hx6, rfl⟩
    | 4, hi =>
      cases hi
      have e3 : a'.tmps.getD 43 undef = .bool true := hd ⟨3, .data⟩ (by simp) rfl _ 43 rfl rfl
      exact wpv_value (v := .bool false) (by simp [go_sem, Act.eval, e3]) rfl
  intro vs w8 hx8 hv
  have e4 : vs 4 = .bool false := hv 4 (by decide)
  simp only [fillF, e4, List.setIfInBounds_toArray, List.set]
  clear hv e4
  have hy8 : Ext w7 w8 := hx8
  have hE8 := hE7.trans hy8
  have hb_p0_0_8 : w8.cell? ⟨w.heap.size, 0, none⟩ = some (.slice a0p0 x0.signals.length c0p0) := by rw [hy8.cell (lt_of_cell hb_p0_0_7)]; exact hb_p0_0_7
  have hb_p0_1_8 : w8.cell? ⟨w.heap.size, 1, none⟩ = some (.slice a1p0 x0.codes.length c1p0) := by rw [hy8.cell (lt_of_cell hb_p0_1_7)]; exact hb_p0_1_7
  have hb_p0_2_8 : w8.cell? ⟨w.heap.size, 2, none⟩ = some (.slice a2p0 x0.arcs.length c2p0) := by rw [hy8.cell (lt_of_cell hb_p0_2_7)]; exact hb_p0_2_7
  have hb_p1_0_8 : w8.cell? ⟨w.heap.size + 1, 0, none⟩ = some (.slice a0p1 x1.signals.length c0p1) := by rw [hy8.cell (lt_of_cell hb_p1_0_7)]; exact hb_p1_0_7
  have hb_p1_1_8 : w8.cell? ⟨w.heap.size + 1, 1, none⟩ = some (.slice a1p1 x1.codes.length c1p1) := by rw [hy8.cell (lt_of_cell hb_p1_1_7)]; exact hb_p1_1_7
  have hb_p1_2_8 : w8.cell? ⟨w.heap.size + 1, 2, none⟩ = some (.slice a2p1 x1.arcs.length c2p1) := by rw [hy8.cell (lt_of_cell hb_p1_2_7)]; exact hb_p1_2_7
  have hb_x0_0_8 : w8.cell? ⟨w4.heap.size, 0, none⟩ = some (.slice a0x0 x0.signals.length c0x0) := by rw [hy8.cell (lt_of_cell hb_x0_0_7)]; exact hb_x0_0_7
  have hb_x0_1_8 : w8.cell? ⟨w4.heap.size, 1, none⟩ = some (.slice a1x0 x0.codes.length c1x0) := by rw [hy8.cell (lt_of_cell hb_x0_1_7)]; exact hb_x0_1_7
  have hb_x0_2_8 : w8.cell? ⟨w4.heap.size, 2, none⟩ = some (.slice a2x0 x0.arcs.length c2x0) := by rw [hy8.cell (lt_of_cell hb_x0_2_7)]; exact hb_x0_2_7
  have hb_x1_0_8 : w8.cell? ⟨w5.heap.size, 0, none⟩ = some (.slice a0x1 x1.signals.length c0x1) := by rw [hy8.cell (lt_of_cell hb_x1_0_7)]; exact hb_x1_0_7
  have hb_x1_1_8 : w8.cell? ⟨w5.heap.size, 1, none⟩ = some (.slice a1x1 x1.codes.length c1x1) := by rw [hy8.cell (lt_of_cell hb_x1_1_7)]; exact hb_x1_1_7
  have hb_x1_2_8 : w8.cell? ⟨w5.heap.size, 2, none⟩ = some (.slice a2x1 x1.arcs.length c2x1) := by rw [hy8.cell (lt_of_cell hb_x1_2_7)]; exact hb_x1_2_7
  have hlt_p0_8 := lt_of_cell hb_p0_0_8
  have hlt_p1_8 := lt_of_cell hb_p1_0_8
  have hlt_x0_8 := lt_of_cell hb_x0_0_8
  have hlt_x1_8 := lt_of_cell hb_x1_0_8
  clear hb_p0_0_7 hb_p0_1_7 hb_p0_2_7 hb_p1_0_7 hb_p1_1_7 hb_p1_2_7 hb_x0_0_7 hb_x0_1_7 hb_x0_2_7 hb_x1_0_7 hb_x1_1_7 hb_x1_2_7 hlt_p0_7 hlt_p1_7 hlt_x0_7 hlt_x1_7
  have hS0_8 := Lib.hid (hS0_7.out.ext hy8)
  have hS1_8 := Lib.hid (hS1_7.out.ext hy8)
  go_wp2
  go_ret
  exact ⟨rfl, hE8⟩

theorem own : ownKnob Try.prog.godebug = none := by kernel_rfl

set_option maxRecDepth 100000 in
theorem lifted (os : Os) (started : os.Started) (H : Type) (enc : TypeId × Value → H) :
    ReturnsInHanded {} Try.checked os 8 .any (Rows.fnExactEqualStateGraphSpec.pre6 enc Try.prog Try.f8 Rows.fnExactEqualStateGraphRow.domain false) (Rows.fnExactEqualStateGraphSpec.post enc Try.prog Try.f8 false true false false) := by
  refine returnsInHanded_of_change (C := Try.checked) own started (by kernel_rfl) Try.func8
    (ChangeSpec.witness6 (enc := enc) (C := Try.checked) false ⟨#[], #[.agg #[.slice none 0 0, .slice none 0 0, .slice none 0 0], .agg #[.slice none 0 0, .slice none 0 0, .slice none 0 0]], []⟩ 8 (by kernel_rfl) (by kernel_rfl) (by kernel_rfl) (by kernel_rfl)) ?_
  intro W base args ds gs before hval0 hW hcnd _
  have hval : ∀ (j : Nat) t v, Try.f8.params[j]? = some t → args[j]? = some v → Value.okWide Try.prog W .any base t v := hval0
  have hW' := hW
  have hlt := fun p hp => DataW.Whole.lt hW p hp
  obtain ⟨p, q, hA0, hV, rfl, hfz, hnd⟩ := hW
  have hA : DataW.TrodAll enc Try.prog W 0 (fun _ => true) true Try.f8.params.toList args.toList ds p := hA0
  have hA1 := hA
  rw [Try.params8] at hA hval
  obtain ⟨v0, vs0, d0, ds0, p0, q0, hargs, rfl, _, h0, r0⟩ := trodAll_cons hA
  obtain ⟨v1, vs1, d1, ds1, p1, q1, rfl, rfl, _, h1, r1⟩ := trodAll_cons r0
  obtain ⟨rfl, rfl, _⟩ := trodAll_nil r1
  obtain rfl : args = #[v0, v1] := by cases args; simp_all
  obtain ⟨rfl, rfl⟩ := trodVars_none hV
  obtain ⟨cs0, x0, rfl, hx0⟩ := open_struct opens_SGraph Try.underlying54 (hval 0 54 v0 rfl rfl) h0
  obtain ⟨a0_0, c0_0, a1_0, c1_0, a2_0, c2_0, e0⟩ := shape_SGraph hx0
  obtain rfl : cs0 = #[.slice a0_0 x0.signals.length c0_0, .slice a1_0 x0.codes.length c1_0, .slice a2_0 x0.arcs.length c2_0] := by rw [← Array.toArray_toList (xs := cs0), e0]
  obtain ⟨cs1, x1, rfl, hx1⟩ := open_struct opens_SGraph Try.underlying54 (hval 1 54 v1 rfl rfl) h1
  obtain ⟨a0_1, c0_1, a1_1, c1_1, a2_1, c2_1, e1⟩ := shape_SGraph hx1
  obtain rfl : cs1 = #[.slice a0_1 x1.signals.length c0_1, .slice a1_1 x1.codes.length c1_1, .slice a2_1 x1.arcs.length c2_1] := by rw [← Array.toArray_toList (xs := cs1), e1]
  clear hA0 hval0
  refine (walk W a0_0 c0_0 a1_0 c1_0 a2_0 c2_0 x0 hx0 a0_1 c0_1 a1_1 c1_1 a2_1 c2_1 x1 hx1).mono fun e W' ⟨he, hg⟩ => ?_
  subst he
  refine ⟨_, rfl, post_of_below (pa := p) (pv := []) hW' (fun _ _ _ => (trodAll_cons_mk (shut_bool Try.underlying4 _) trodAll_mk0)) (fun sp hsp => ?_) (fun sp _ => rfl) rfl hg (ok_one (by kernel_rfl) rfl (okWide_bool_mk Try.underlying4 _))⟩
  exact trodAll_below (by kernel_rfl) hg (of_decide_eq_true (by kernel_rfl)) hA1 (fun x hx => hlt x (List.mem_append_left _ hx)) (fun x hx => hsp x (List.mem_append_left _ hx))

theorem over : Rows.fnExactEqualStateGraphRow.holds Try.pinned (OpenSpec.ofChange Rows.fnExactEqualStateGraphSpec) :=
  OpenClaim.holds_of_wide 8 Try.f8 rfl rfl rfl rfl rfl rfl rfl ⟨rfl, rfl, rfl, rfl, rfl⟩ rfl rfl rfl rfl rfl (by kernel_rfl) Try.func8 (by kernel_rfl)
    (of_decide_eq_true (by kernel_rfl)) (by unfold Func.isWrapper; first | (rw [if_pos (by decide +kernel)]; kernel_rfl) | (rw [if_neg (by decide +kernel)]; exact ⟨rfl, rfl⟩))
    (fun os started H enc _ => lifted os started H enc)

theorem proved : Rows.FnExactEqualStateGraphSaid :=
  over
#print axioms proved
end Go.Proofs.Ytaeepdgnaoobnaa.fnExactEqualStateGraph
