/- The law FnExactEqualSTG returns true, for every input. -/
import Derived.Test.YtboimpalblicnaaSpecSTG
import Derived.Test.YtboimpalblicnaaRegion
import Derived.Test.YtboimpalblicnaaOpens
import Derived.Test.YtboimpalblicnaaFacts
namespace Go.Proofs.Ytboimpalblicnaa.fnExactEqualSTG
open Go.ChangeShapes Go.WideShapes Go.ChangeAt Go.RowKit

set_option maxRecDepth 20000 in
set_option maxHeartbeats 4000000 in
theorem walk (w : World) (a1p0 : Option Addr) (c1p0 : Nat) (a2p0 : Option Addr) (c2p0 : Nat) (a3p0 : Option Addr) (c3p0 : Nat) (x0 : Stg) (h0 : tStg.R w x0 [.int .i64 x0.net.places, .slice a1p0 x0.net.trs.length c1p0, .slice a2p0 x0.signals.length c2p0, .slice a3p0 x0.labels.length c3p0, .string x0.start]) (a1p1 : Option Addr) (c1p1 : Nat) (a2p1 : Option Addr) (c2p1 : Nat) (a3p1 : Option Addr) (c3p1 : Nat) (x1 : Stg) (h1 : tStg.R w x1 [.int .i64 x1.net.places, .slice a1p1 x1.net.trs.length c1p1, .slice a2p1 x1.signals.length c2p1, .slice a3p1 x1.labels.length c3p1, .string x1.start]) :
    Calls Try.prog 12 #[.agg #[.int .i64 x0.net.places, .slice a1p0 x0.net.trs.length c1p0, .slice a2p0 x0.signals.length c2p0, .slice a3p0 x0.labels.length c3p0, .string x0.start], .agg #[.int .i64 x1.net.places, .slice a1p1 x1.net.trs.length c1p1, .slice a2p1 x1.signals.length c2p1, .slice a3p1 x1.labels.length c3p1, .string x1.start]] w fun e w' => e = .returned (.bool true) ∧ Ext w w' := by
  have H0 := Lib.hid h0
  have H1 := Lib.hid h1
  clear h0 h1
  have hE0 : Ext w ((w.alloc (.cells #[.int .i64 x0.net.places, .slice a1p0 x0.net.trs.length c1p0, .slice a2p0 x0.signals.length c2p0, .slice a3p0 x0.labels.length c3p0, .string x0.start] 92)).alloc (.cells #[.int .i64 x1.net.places, .slice a1p1 x1.net.trs.length c1p1, .slice a2p1 x1.signals.length c2p1, .slice a3p1 x1.labels.length c3p1, .string x1.start] 92)) := (Ext.alloc (Ext.alloc (Ext.refl w) _) _)
  go_enter Try.func12, Try.ntmps12
  go_wp2_with fail
  refine (szSTG_c _ _ _ _ _ _ _ _ _ (H0.out.ext hE0) (by omega) (by omega)).mono ?_
  rintro e w1 ⟨rfl, hx1⟩
  have hy1 : Ext ((w.alloc (.cells #[.int .i64 x0.net.places, .slice a1p0 x0.net.trs.length c1p0, .slice a2p0 x0.signals.length c2p0, .slice a3p0 x0.labels.length c3p0, .string x0.start] 92)).alloc (.cells #[.int .i64 x1.net.places, .slice a1p1 x1.net.trs.length c1p1, .slice a2p1 x1.signals.length c2p1, .slice a3p1 x1.labels.length c3p1, .string x1.start] 92)) w1 := hx1
  have hE1 := hE0.trans hy1
  have hb_p0_0_1 : w1.cell? ⟨w.heap.size, 0, none⟩ = some (.int .i64 x0.net.places) := by rw [hy1.cell (by simp only [World.size_alloc]; omega)]; simp
  have hb_p0_1_1 : w1.cell? ⟨w.heap.size, 1, none⟩ = some (.slice a1p0 x0.net.trs.length c1p0) := by rw [hy1.cell (by simp only [World.size_alloc]; omega)]; simp
  have hb_p0_2_1 : w1.cell? ⟨w.heap.size, 2, none⟩ = some (.slice a2p0 x0.signals.length c2p0) := by rw [hy1.cell (by simp only [World.size_alloc]; omega)]; simp
  have hb_p0_3_1 : w1.cell? ⟨w.heap.size, 3, none⟩ = some (.slice a3p0 x0.labels.length c3p0) := by rw [hy1.cell (by simp only [World.size_alloc]; omega)]; simp
  have hb_p0_4_1 : w1.cell? ⟨w.heap.size, 4, none⟩ = some (.string x0.start) := by rw [hy1.cell (by simp only [World.size_alloc]; omega)]; simp
  have hb_p1_0_1 : w1.cell? ⟨w.heap.size + 1, 0, none⟩ = some (.int .i64 x1.net.places) := by rw [hy1.cell (by simp only [World.size_alloc]; omega)]; simp
  have hb_p1_1_1 : w1.cell? ⟨w.heap.size + 1, 1, none⟩ = some (.slice a1p1 x1.net.trs.length c1p1) := by rw [hy1.cell (by simp only [World.size_alloc]; omega)]; simp
  have hb_p1_2_1 : w1.cell? ⟨w.heap.size + 1, 2, none⟩ = some (.slice a2p1 x1.signals.length c2p1) := by rw [hy1.cell (by simp only [World.size_alloc]; omega)]; simp
  have hb_p1_3_1 : w1.cell? ⟨w.heap.size + 1, 3, none⟩ = some (.slice a3p1 x1.labels.length c3p1) := by rw [hy1.cell (by simp only [World.size_alloc]; omega)]; simp
  have hb_p1_4_1 : w1.cell? ⟨w.heap.size + 1, 4, none⟩ = some (.string x1.start) := by rw [hy1.cell (by simp only [World.size_alloc]; omega)]; simp
  have hlt_p0_1 := lt_of_cell hb_p0_0_1
  have hlt_p1_1 := lt_of_cell hb_p1_0_1
  by_cases hq0 : 1048576 < ((szStg x0 : Nat) : Int)
  · rw [lessen_neg hq0]
    go_wp2
    go_ret
    exact ⟨rfl, hE1⟩
  rw [lessen_pos (by omega)]
  have hz0 : szStg x0 ≤ 1048576 := by omega
  go_wp2_with fail
  refine (szSTG_c _ _ _ _ _ _ _ _ _ (H1.out.ext hE1) (by omega) (by omega)).mono ?_
  rintro e w2 ⟨rfl, hx2⟩
  have hy2 : Ext w1 w2 := hx2
  have hE2 := hE1.trans hy2
  have hb_p0_0_2 : w2.cell? ⟨w.heap.size, 0, none⟩ = some (.int .i64 x0.net.places) := by rw [hy2.cell (lt_of_cell hb_p0_0_1)]; exact hb_p0_0_1
  have hb_p0_1_2 : w2.cell? ⟨w.heap.size, 1, none⟩ = some (.slice a1p0 x0.net.trs.length c1p0) := by rw [hy2.cell (lt_of_cell hb_p0_1_1)]; exact hb_p0_1_1
  have hb_p0_2_2 : w2.cell? ⟨w.heap.size, 2, none⟩ = some (.slice a2p0 x0.signals.length c2p0) := by rw [hy2.cell (lt_of_cell hb_p0_2_1)]; exact hb_p0_2_1
  have hb_p0_3_2 : w2.cell? ⟨w.heap.size, 3, none⟩ = some (.slice a3p0 x0.labels.length c3p0) := by rw [hy2.cell (lt_of_cell hb_p0_3_1)]; exact hb_p0_3_1
  have hb_p0_4_2 : w2.cell? ⟨w.heap.size, 4, none⟩ = some (.string x0.start) := by rw [hy2.cell (lt_of_cell hb_p0_4_1)]; exact hb_p0_4_1
  have hb_p1_0_2 : w2.cell? ⟨w.heap.size + 1, 0, none⟩ = some (.int .i64 x1.net.places) := by rw [hy2.cell (lt_of_cell hb_p1_0_1)]; exact hb_p1_0_1
  have hb_p1_1_2 : w2.cell? ⟨w.heap.size + 1, 1, none⟩ = some (.slice a1p1 x1.net.trs.length c1p1) := by rw [hy2.cell (lt_of_cell hb_p1_1_1)]; exact hb_p1_1_1
  have hb_p1_2_2 : w2.cell? ⟨w.heap.size + 1, 2, none⟩ = some (.slice a2p1 x1.signals.length c2p1) := by rw [hy2.cell (lt_of_cell hb_p1_2_1)]; exact hb_p1_2_1
  have hb_p1_3_2 : w2.cell? ⟨w.heap.size + 1, 3, none⟩ = some (.slice a3p1 x1.labels.length c3p1) := by rw [hy2.cell (lt_of_cell hb_p1_3_1)]; exact hb_p1_3_1
  have hb_p1_4_2 : w2.cell? ⟨w.heap.size + 1, 4, none⟩ = some (.string x1.start) := by rw [hy2.cell (lt_of_cell hb_p1_4_1)]; exact hb_p1_4_1
  have hlt_p0_2 := lt_of_cell hb_p0_0_2
  have hlt_p1_2 := lt_of_cell hb_p1_0_2
  clear hb_p0_0_1 hb_p0_1_1 hb_p0_2_1 hb_p0_3_1 hb_p0_4_1 hb_p1_0_1 hb_p1_1_1 hb_p1_2_1 hb_p1_3_1 hb_p1_4_1 hlt_p0_1 hlt_p1_1
  by_cases hq1 : 1048576 - ((szStg x0 : Nat) : Int) < ((szStg x1 : Nat) : Int)
  · rw [lessen_neg hq1]
    go_wp2
    go_ret
    exact ⟨rfl, hE2⟩
  rw [lessen_pos (by omega)]
  have hz1 : szStg x1 ≤ 1048576 := by omega
  go_wp2_with fail
  refine wp_region_facts (fun i v w => match i with
    | 0 => v = .agg #[.int .i64 x0.net.places, .slice a1p0 x0.net.trs.length c1p0, .slice a2p0 x0.signals.length c2p0, .slice a3p0 x0.labels.length c3p0, .string x0.start]
    | 1 => ∃ a1q0 c1q0 a2q0 c2q0 a3q0 c3q0, v = .agg #[.int .i64 x0.net.places, .slice a1q0 x0.net.trs.length c1q0, .slice a2q0 x0.signals.length c2q0, .slice a3q0 x0.labels.length c3q0, .string x0.start] ∧ tStg.R w x0 [.int .i64 x0.net.places, .slice a1q0 x0.net.trs.length c1q0, .slice a2q0 x0.signals.length c2q0, .slice a3q0 x0.labels.length c3q0, .string x0.start]
    | 2 => v = .agg #[.int .i64 x1.net.places, .slice a1p1 x1.net.trs.length c1p1, .slice a2p1 x1.signals.length c2p1, .slice a3p1 x1.labels.length c3p1, .string x1.start]
    | 3 => ∃ a1q1 c1q1 a2q1 c2q1 a3q1 c3q1, v = .agg #[.int .i64 x1.net.places, .slice a1q1 x1.net.trs.length c1q1, .slice a2q1 x1.signals.length c2q1, .slice a3q1 x1.labels.length c3q1, .string x1.start] ∧ tStg.R w x1 [.int .i64 x1.net.places, .slice a1q1 x1.net.trs.length c1q1, .slice a2q1 x1.signals.length c2q1, .slice a3q1 x1.labels.length c3q1, .string x1.start]
    | 4 => v = .bool (eqSTG x0 x1)
    | _ => v = .bool (eqSTG x0 x1)) (by kernel_rfl) (by kernel_rfl) ?_ ?_ ?_
  · intro i v v1 v2 hi hv he
    match i, hv with
    | 0, hv => exact hv
    | 1, ⟨a1q0, c1q0, a2q0, c2q0, a3q0, c3q0, h1, h2⟩ => exact ⟨a1q0, c1q0, a2q0, c2q0, a3q0, c3q0, h1, h2.ext he⟩
    | 2, hv => exact hv
    | 3, ⟨a1q1, c1q1, a2q1, c2q1, a3q1, c3q1, h1, h2⟩ => exact ⟨a1q1, c1q1, a2q1, c2q1, a3q1, c3q1, h1, h2.ext he⟩
    | 4, hv => exact hv
    | _ + 5, hv => exact hv
  · intro i o hi a' w' hx ho hd
    have e_p0_0 : w'.cell? ⟨w.heap.size, 0, none⟩ = some (.int .i64 x0.net.places) := by rw [hx.cell (lt_of_cell hb_p0_0_2)]; exact hb_p0_0_2
    have e_p0_1 : w'.cell? ⟨w.heap.size, 1, none⟩ = some (.slice a1p0 x0.net.trs.length c1p0) := by rw [hx.cell (lt_of_cell hb_p0_1_2)]; exact hb_p0_1_2
    have e_p0_2 : w'.cell? ⟨w.heap.size, 2, none⟩ = some (.slice a2p0 x0.signals.length c2p0) := by rw [hx.cell (lt_of_cell hb_p0_2_2)]; exact hb_p0_2_2
    have e_p0_3 : w'.cell? ⟨w.heap.size, 3, none⟩ = some (.slice a3p0 x0.labels.length c3p0) := by rw [hx.cell (lt_of_cell hb_p0_3_2)]; exact hb_p0_3_2
    have e_p0_4 : w'.cell? ⟨w.heap.size, 4, none⟩ = some (.string x0.start) := by rw [hx.cell (lt_of_cell hb_p0_4_2)]; exact hb_p0_4_2
    have e_p1_0 : w'.cell? ⟨w.heap.size + 1, 0, none⟩ = some (.int .i64 x1.net.places) := by rw [hx.cell (lt_of_cell hb_p1_0_2)]; exact hb_p1_0_2
    have e_p1_1 : w'.cell? ⟨w.heap.size + 1, 1, none⟩ = some (.slice a1p1 x1.net.trs.length c1p1) := by rw [hx.cell (lt_of_cell hb_p1_1_2)]; exact hb_p1_1_2
    have e_p1_2 : w'.cell? ⟨w.heap.size + 1, 2, none⟩ = some (.slice a2p1 x1.signals.length c2p1) := by rw [hx.cell (lt_of_cell hb_p1_2_2)]; exact hb_p1_2_2
    have e_p1_3 : w'.cell? ⟨w.heap.size + 1, 3, none⟩ = some (.slice a3p1 x1.labels.length c3p1) := by rw [hx.cell (lt_of_cell hb_p1_3_2)]; exact hb_p1_3_2
    have e_p1_4 : w'.cell? ⟨w.heap.size + 1, 4, none⟩ = some (.string x1.start) := by rw [hx.cell (lt_of_cell hb_p1_4_2)]; exact hb_p1_4_2
    match i, hi with
    | 0, hi =>
      cases hi
      have e1 : a'.tmps.getD 2 undef = .pointer (some ⟨w.heap.size, 0, none⟩) := ho 2 (by decide)
      refine wpv_value (v := .agg #[.int .i64 x0.net.places, .slice a1p0 x0.net.trs.length c1p0, .slice a2p0 x0.signals.length c2p0, .slice a3p0 x0.labels.length c3p0, .string x0.start]) ?_ rfl
      simp [go_sem, Act.eval, e1, e_p0_0, e_p0_1, e_p0_2, e_p0_3, e_p0_4]
    | 1, hi =>
      cases hi
      have e2 : a'.tmps.getD 20 undef = .agg #[.int .i64 x0.net.places, .slice a1p0 x0.net.trs.length c1p0, .slice a2p0 x0.signals.length c2p0, .slice a3p0 x0.labels.length c3p0, .string x0.start] := hd ⟨0, .data⟩ (by simp) rfl _ 20 rfl rfl
      refine wpv_enter (f := 61) (args := #[.agg #[.int .i64 x0.net.places, .slice a1p0 x0.net.trs.length c1p0, .slice a2p0 x0.signals.length c2p0, .slice a3p0 x0.labels.length c3p0, .string x0.start]]) (by simp [go_sem, Act.eval, e2]) ((toSTG_c _ _ _ _ _ _ _ _ (H0.out.ext (hE2.trans hx)) hz0).mono ?_)
      rintro e w6 ⟨a1q0, c1q0, a2q0, c2q0, a3q0, c3q0, rfl, hF6, hx6⟩
      exact ⟨_, rfl, hx6, a1q0, c1q0, a2q0, c2q0, a3q0, c3q0, rfl, hF6.R⟩
    | 2, hi =>
      cases hi
      have e1 : a'.tmps.getD 3 undef = .pointer (some ⟨w.heap.size + 1, 0, none⟩) := ho 3 (by decide)
      refine wpv_value (v := .agg #[.int .i64 x1.net.places, .slice a1p1 x1.net.trs.length c1p1, .slice a2p1 x1.signals.length c2p1, .slice a3p1 x1.labels.length c3p1, .string x1.start]) ?_ rfl
      simp [go_sem, Act.eval, e1, e_p1_0, e_p1_1, e_p1_2, e_p1_3, e_p1_4]
    | 3, hi =>
      cases hi
      have e2 : a'.tmps.getD 22 undef = .agg #[.int .i64 x1.net.places, .slice a1p1 x1.net.trs.length c1p1, .slice a2p1 x1.signals.length c2p1, .slice a3p1 x1.labels.length c3p1, .string x1.start] := hd ⟨2, .data⟩ (by simp) rfl _ 22 rfl rfl
      refine wpv_enter (f := 61) (args := #[.agg #[.int .i64 x1.net.places, .slice a1p1 x1.net.trs.length c1p1, .slice a2p1 x1.signals.length c2p1, .slice a3p1 x1.labels.length c3p1, .string x1.start]]) (by simp [go_sem, Act.eval, e2]) ((toSTG_c _ _ _ _ _ _ _ _ (H1.out.ext (hE2.trans hx)) hz1).mono ?_)
      rintro e w6 ⟨a1q1, c1q1, a2q1, c2q1, a3q1, c3q1, rfl, hF6, hx6⟩
      exact ⟨_, rfl, hx6, a1q1, c1q1, a2q1, c2q1, a3q1, c3q1, rfl, hF6.R⟩
    | 4, hi =>
      cases hi
      obtain ⟨a1q0, c1q0, a2q0, c2q0, a3q0, c3q0, e_0, hR_0⟩ : ∃ a1q0 c1q0 a2q0 c2q0 a3q0 c3q0, a'.tmps.getD 21 undef = .agg #[.int .i64 x0.net.places, .slice a1q0 x0.net.trs.length c1q0, .slice a2q0 x0.signals.length c2q0, .slice a3q0 x0.labels.length c3q0, .string x0.start] ∧ tStg.R w' x0 [.int .i64 x0.net.places, .slice a1q0 x0.net.trs.length c1q0, .slice a2q0 x0.signals.length c2q0, .slice a3q0 x0.labels.length c3q0, .string x0.start] := hd ⟨1, .data⟩ (by simp) rfl _ 21 rfl rfl
      obtain ⟨a1q1, c1q1, a2q1, c2q1, a3q1, c3q1, e_1, hR_1⟩ : ∃ a1q1 c1q1 a2q1 c2q1 a3q1 c3q1, a'.tmps.getD 23 undef = .agg #[.int .i64 x1.net.places, .slice a1q1 x1.net.trs.length c1q1, .slice a2q1 x1.signals.length c2q1, .slice a3q1 x1.labels.length c3q1, .string x1.start] ∧ tStg.R w' x1 [.int .i64 x1.net.places, .slice a1q1 x1.net.trs.length c1q1, .slice a2q1 x1.signals.length c2q1, .slice a3q1 x1.labels.length c3q1, .string x1.start] := hd ⟨3, .data⟩ (by simp) rfl _ 23 rfl rfl
      refine wpv_enter (f := 60) (args := #[.agg #[.int .i64 x0.net.places, .slice a1q0 x0.net.trs.length c1q0, .slice a2q0 x0.signals.length c2q0, .slice a3q0 x0.labels.length c3q0, .string x0.start], .agg #[.int .i64 x1.net.places, .slice a1q1 x1.net.trs.length c1q1, .slice a2q1 x1.signals.length c2q1, .slice a3q1 x1.labels.length c3q1, .string x1.start]]) (by simp [go_sem, Act.eval, e_0, e_1]) ((specEqualSTG_c _ _ _ _ _ _ _ x0 (hR_0) _ _ _ _ _ _ x1 (hR_1)).mono ?_)
      rintro e w6 ⟨rfl, hx6⟩
      exact ⟨_, rfl, hx6, rfl⟩
    | 5, hi =>
      cases hi
      have e2 : a'.tmps.getD 24 undef = .bool (eqSTG x0 x1) := hd ⟨4, .data⟩ (by simp) rfl _ 24 rfl rfl
      exact wpv_value (v := .bool (eqSTG x0 x1)) (by simp [go_sem, Act.eval, e2]) rfl
  intro vs w3 hx3 hv
  have e4 : vs 5 = .bool (eqSTG x0 x1) := hv 5 (by decide)
  simp only [fillF, e4, List.setIfInBounds_toArray, List.set]
  clear hv e4
  have hy3 : Ext w2 w3 := hx3
  have hE3 := hE2.trans hy3
  have hb_p0_0_3 : w3.cell? ⟨w.heap.size, 0, none⟩ = some (.int .i64 x0.net.places) := by rw [hy3.cell (lt_of_cell hb_p0_0_2)]; exact hb_p0_0_2
  have hb_p0_1_3 : w3.cell? ⟨w.heap.size, 1, none⟩ = some (.slice a1p0 x0.net.trs.length c1p0) := by rw [hy3.cell (lt_of_cell hb_p0_1_2)]; exact hb_p0_1_2
  have hb_p0_2_3 : w3.cell? ⟨w.heap.size, 2, none⟩ = some (.slice a2p0 x0.signals.length c2p0) := by rw [hy3.cell (lt_of_cell hb_p0_2_2)]; exact hb_p0_2_2
  have hb_p0_3_3 : w3.cell? ⟨w.heap.size, 3, none⟩ = some (.slice a3p0 x0.labels.length c3p0) := by rw [hy3.cell (lt_of_cell hb_p0_3_2)]; exact hb_p0_3_2
  have hb_p0_4_3 : w3.cell? ⟨w.heap.size, 4, none⟩ = some (.string x0.start) := by rw [hy3.cell (lt_of_cell hb_p0_4_2)]; exact hb_p0_4_2
  have hb_p1_0_3 : w3.cell? ⟨w.heap.size + 1, 0, none⟩ = some (.int .i64 x1.net.places) := by rw [hy3.cell (lt_of_cell hb_p1_0_2)]; exact hb_p1_0_2
  have hb_p1_1_3 : w3.cell? ⟨w.heap.size + 1, 1, none⟩ = some (.slice a1p1 x1.net.trs.length c1p1) := by rw [hy3.cell (lt_of_cell hb_p1_1_2)]; exact hb_p1_1_2
  have hb_p1_2_3 : w3.cell? ⟨w.heap.size + 1, 2, none⟩ = some (.slice a2p1 x1.signals.length c2p1) := by rw [hy3.cell (lt_of_cell hb_p1_2_2)]; exact hb_p1_2_2
  have hb_p1_3_3 : w3.cell? ⟨w.heap.size + 1, 3, none⟩ = some (.slice a3p1 x1.labels.length c3p1) := by rw [hy3.cell (lt_of_cell hb_p1_3_2)]; exact hb_p1_3_2
  have hb_p1_4_3 : w3.cell? ⟨w.heap.size + 1, 4, none⟩ = some (.string x1.start) := by rw [hy3.cell (lt_of_cell hb_p1_4_2)]; exact hb_p1_4_2
  have hlt_p0_3 := lt_of_cell hb_p0_0_3
  have hlt_p1_3 := lt_of_cell hb_p1_0_3
  clear hb_p0_0_2 hb_p0_1_2 hb_p0_2_2 hb_p0_3_2 hb_p0_4_2 hb_p1_0_2 hb_p1_1_2 hb_p1_2_2 hb_p1_3_2 hb_p1_4_2 hlt_p0_2 hlt_p1_2
  go_wp2_with fail
  refine (toSTG_c _ _ _ _ _ _ _ _ (H0.out.ext hE3) hz0).mono ?_
  rintro e w4 ⟨a1x0, c1x0, a2x0, c2x0, a3x0, c3x0, rfl, hF4, hx4⟩
  have hR4 := Lib.hid hF4.R
  clear hF4
  have hy4 : Ext w3 w4 := hx4
  have hE4 := hE3.trans hy4
  have hb_p0_0_4 : w4.cell? ⟨w.heap.size, 0, none⟩ = some (.int .i64 x0.net.places) := by rw [hy4.cell (lt_of_cell hb_p0_0_3)]; exact hb_p0_0_3
  have hb_p0_1_4 : w4.cell? ⟨w.heap.size, 1, none⟩ = some (.slice a1p0 x0.net.trs.length c1p0) := by rw [hy4.cell (lt_of_cell hb_p0_1_3)]; exact hb_p0_1_3
  have hb_p0_2_4 : w4.cell? ⟨w.heap.size, 2, none⟩ = some (.slice a2p0 x0.signals.length c2p0) := by rw [hy4.cell (lt_of_cell hb_p0_2_3)]; exact hb_p0_2_3
  have hb_p0_3_4 : w4.cell? ⟨w.heap.size, 3, none⟩ = some (.slice a3p0 x0.labels.length c3p0) := by rw [hy4.cell (lt_of_cell hb_p0_3_3)]; exact hb_p0_3_3
  have hb_p0_4_4 : w4.cell? ⟨w.heap.size, 4, none⟩ = some (.string x0.start) := by rw [hy4.cell (lt_of_cell hb_p0_4_3)]; exact hb_p0_4_3
  have hb_p1_0_4 : w4.cell? ⟨w.heap.size + 1, 0, none⟩ = some (.int .i64 x1.net.places) := by rw [hy4.cell (lt_of_cell hb_p1_0_3)]; exact hb_p1_0_3
  have hb_p1_1_4 : w4.cell? ⟨w.heap.size + 1, 1, none⟩ = some (.slice a1p1 x1.net.trs.length c1p1) := by rw [hy4.cell (lt_of_cell hb_p1_1_3)]; exact hb_p1_1_3
  have hb_p1_2_4 : w4.cell? ⟨w.heap.size + 1, 2, none⟩ = some (.slice a2p1 x1.signals.length c2p1) := by rw [hy4.cell (lt_of_cell hb_p1_2_3)]; exact hb_p1_2_3
  have hb_p1_3_4 : w4.cell? ⟨w.heap.size + 1, 3, none⟩ = some (.slice a3p1 x1.labels.length c3p1) := by rw [hy4.cell (lt_of_cell hb_p1_3_3)]; exact hb_p1_3_3
  have hb_p1_4_4 : w4.cell? ⟨w.heap.size + 1, 4, none⟩ = some (.string x1.start) := by rw [hy4.cell (lt_of_cell hb_p1_4_3)]; exact hb_p1_4_3
  have hlt_p0_4 := lt_of_cell hb_p0_0_4
  have hlt_p1_4 := lt_of_cell hb_p1_0_4
  clear hb_p0_0_3 hb_p0_1_3 hb_p0_2_3 hb_p0_3_3 hb_p0_4_3 hb_p1_0_3 hb_p1_1_3 hb_p1_2_3 hb_p1_3_3 hb_p1_4_3 hlt_p0_3 hlt_p1_3
  have hS0_4 := hR4
  go_wp2_with fail
  refine (toSTG_c _ _ _ _ _ _ _ _ (H1.out.ext (hE4.alloc _)) hz1).mono ?_
  rintro e w5 ⟨a1x1, c1x1, a2x1, c2x1, a3x1, c3x1, rfl, hF5, hx5⟩
  have hR5 := Lib.hid hF5.R
  clear hF5
  have hy5 : Ext w4 w5 := ((Ext.refl _).alloc _).trans hx5
  have hE5 := hE4.trans hy5
  have hb_p0_0_5 : w5.cell? ⟨w.heap.size, 0, none⟩ = some (.int .i64 x0.net.places) := by rw [hy5.cell (lt_of_cell hb_p0_0_4)]; exact hb_p0_0_4
  have hb_p0_1_5 : w5.cell? ⟨w.heap.size, 1, none⟩ = some (.slice a1p0 x0.net.trs.length c1p0) := by rw [hy5.cell (lt_of_cell hb_p0_1_4)]; exact hb_p0_1_4
  have hb_p0_2_5 : w5.cell? ⟨w.heap.size, 2, none⟩ = some (.slice a2p0 x0.signals.length c2p0) := by rw [hy5.cell (lt_of_cell hb_p0_2_4)]; exact hb_p0_2_4
  have hb_p0_3_5 : w5.cell? ⟨w.heap.size, 3, none⟩ = some (.slice a3p0 x0.labels.length c3p0) := by rw [hy5.cell (lt_of_cell hb_p0_3_4)]; exact hb_p0_3_4
  have hb_p0_4_5 : w5.cell? ⟨w.heap.size, 4, none⟩ = some (.string x0.start) := by rw [hy5.cell (lt_of_cell hb_p0_4_4)]; exact hb_p0_4_4
  have hb_p1_0_5 : w5.cell? ⟨w.heap.size + 1, 0, none⟩ = some (.int .i64 x1.net.places) := by rw [hy5.cell (lt_of_cell hb_p1_0_4)]; exact hb_p1_0_4
  have hb_p1_1_5 : w5.cell? ⟨w.heap.size + 1, 1, none⟩ = some (.slice a1p1 x1.net.trs.length c1p1) := by rw [hy5.cell (lt_of_cell hb_p1_1_4)]; exact hb_p1_1_4
  have hb_p1_2_5 : w5.cell? ⟨w.heap.size + 1, 2, none⟩ = some (.slice a2p1 x1.signals.length c2p1) := by rw [hy5.cell (lt_of_cell hb_p1_2_4)]; exact hb_p1_2_4
  have hb_p1_3_5 : w5.cell? ⟨w.heap.size + 1, 3, none⟩ = some (.slice a3p1 x1.labels.length c3p1) := by rw [hy5.cell (lt_of_cell hb_p1_3_4)]; exact hb_p1_3_4
  have hb_p1_4_5 : w5.cell? ⟨w.heap.size + 1, 4, none⟩ = some (.string x1.start) := by rw [hy5.cell (lt_of_cell hb_p1_4_4)]; exact hb_p1_4_4
  have hb_x0_0_5 : w5.cell? ⟨w4.heap.size, 0, none⟩ = some (.int .i64 x0.net.places) := by rw [hx5.cell (by simp)]; exact World.cell?_alloc_new _ _ _ _
  have hb_x0_1_5 : w5.cell? ⟨w4.heap.size, 1, none⟩ = some (.slice a1x0 x0.net.trs.length c1x0) := by rw [hx5.cell (by simp)]; exact World.cell?_alloc_new _ _ _ _
  have hb_x0_2_5 : w5.cell? ⟨w4.heap.size, 2, none⟩ = some (.slice a2x0 x0.signals.length c2x0) := by rw [hx5.cell (by simp)]; exact World.cell?_alloc_new _ _ _ _
  have hb_x0_3_5 : w5.cell? ⟨w4.heap.size, 3, none⟩ = some (.slice a3x0 x0.labels.length c3x0) := by rw [hx5.cell (by simp)]; exact World.cell?_alloc_new _ _ _ _
  have hb_x0_4_5 : w5.cell? ⟨w4.heap.size, 4, none⟩ = some (.string x0.start) := by rw [hx5.cell (by simp)]; exact World.cell?_alloc_new _ _ _ _
  have hlt_p0_5 := lt_of_cell hb_p0_0_5
  have hlt_p1_5 := lt_of_cell hb_p1_0_5
  have hlt_x0_5 := lt_of_cell hb_x0_0_5
  clear hb_p0_0_4 hb_p0_1_4 hb_p0_2_4 hb_p0_3_4 hb_p0_4_4 hb_p1_0_4 hb_p1_1_4 hb_p1_2_4 hb_p1_3_4 hb_p1_4_4 hlt_p0_4 hlt_p1_4
  have hS0_5 := Lib.hid (hS0_4.out.ext hy5)
  have hS1_5 := hR5
  go_wp2_with fail
  refine (EqualSTG_c _ _ _ _ _ _ _ x0 ((hS0_5.out.ext ((Ext.refl _).alloc _))) _ _ _ _ _ _ x1 ((hS1_5.out.ext ((Ext.refl _).alloc _)))).mono ?_
  rintro e w6 ⟨rfl, hx6⟩
  have hy6 : Ext w5 w6 := ((Ext.refl _).alloc _).trans hx6
  have hE6 := hE5.trans hy6
  have hb_p0_0_6 : w6.cell? ⟨w.heap.size, 0, none⟩ = some (.int .i64 x0.net.places) := by rw [hy6.cell (lt_of_cell hb_p0_0_5)]; exact hb_p0_0_5
  have hb_p0_1_6 : w6.cell? ⟨w.heap.size, 1, none⟩ = some (.slice a1p0 x0.net.trs.length c1p0) := by rw [hy6.cell (lt_of_cell hb_p0_1_5)]; exact hb_p0_1_5
  have hb_p0_2_6 : w6.cell? ⟨w.heap.size, 2, none⟩ = some (.slice a2p0 x0.signals.length c2p0) := by rw [hy6.cell (lt_of_cell hb_p0_2_5)]; exact hb_p0_2_5
  have hb_p0_3_6 : w6.cell? ⟨w.heap.size, 3, none⟩ = some (.slice a3p0 x0.labels.length c3p0) := by rw [hy6.cell (lt_of_cell hb_p0_3_5)]; exact hb_p0_3_5
  have hb_p0_4_6 : w6.cell? ⟨w.heap.size, 4, none⟩ = some (.string x0.start) := by rw [hy6.cell (lt_of_cell hb_p0_4_5)]; exact hb_p0_4_5
  have hb_p1_0_6 : w6.cell? ⟨w.heap.size + 1, 0, none⟩ = some (.int .i64 x1.net.places) := by rw [hy6.cell (lt_of_cell hb_p1_0_5)]; exact hb_p1_0_5
  have hb_p1_1_6 : w6.cell? ⟨w.heap.size + 1, 1, none⟩ = some (.slice a1p1 x1.net.trs.length c1p1) := by rw [hy6.cell (lt_of_cell hb_p1_1_5)]; exact hb_p1_1_5
  have hb_p1_2_6 : w6.cell? ⟨w.heap.size + 1, 2, none⟩ = some (.slice a2p1 x1.signals.length c2p1) := by rw [hy6.cell (lt_of_cell hb_p1_2_5)]; exact hb_p1_2_5
  have hb_p1_3_6 : w6.cell? ⟨w.heap.size + 1, 3, none⟩ = some (.slice a3p1 x1.labels.length c3p1) := by rw [hy6.cell (lt_of_cell hb_p1_3_5)]; exact hb_p1_3_5
  have hb_p1_4_6 : w6.cell? ⟨w.heap.size + 1, 4, none⟩ = some (.string x1.start) := by rw [hy6.cell (lt_of_cell hb_p1_4_5)]; exact hb_p1_4_5
  have hb_x0_0_6 : w6.cell? ⟨w4.heap.size, 0, none⟩ = some (.int .i64 x0.net.places) := by rw [hy6.cell (lt_of_cell hb_x0_0_5)]; exact hb_x0_0_5
  have hb_x0_1_6 : w6.cell? ⟨w4.heap.size, 1, none⟩ = some (.slice a1x0 x0.net.trs.length c1x0) := by rw [hy6.cell (lt_of_cell hb_x0_1_5)]; exact hb_x0_1_5
  have hb_x0_2_6 : w6.cell? ⟨w4.heap.size, 2, none⟩ = some (.slice a2x0 x0.signals.length c2x0) := by rw [hy6.cell (lt_of_cell hb_x0_2_5)]; exact hb_x0_2_5
  have hb_x0_3_6 : w6.cell? ⟨w4.heap.size, 3, none⟩ = some (.slice a3x0 x0.labels.length c3x0) := by rw [hy6.cell (lt_of_cell hb_x0_3_5)]; exact hb_x0_3_5
  have hb_x0_4_6 : w6.cell? ⟨w4.heap.size, 4, none⟩ = some (.string x0.start) := by rw [hy6.cell (lt_of_cell hb_x0_4_5)]; exact hb_x0_4_5
  have hb_x1_0_6 : w6.cell? ⟨w5.heap.size, 0, none⟩ = some (.int .i64 x1.net.places) := by rw [hx6.cell (by simp)]; exact World.cell?_alloc_new _ _ _ _
  have hb_x1_1_6 : w6.cell? ⟨w5.heap.size, 1, none⟩ = some (.slice a1x1 x1.net.trs.length c1x1) := by rw [hx6.cell (by simp)]; exact World.cell?_alloc_new _ _ _ _
  have hb_x1_2_6 : w6.cell? ⟨w5.heap.size, 2, none⟩ = some (.slice a2x1 x1.signals.length c2x1) := by rw [hx6.cell (by simp)]; exact World.cell?_alloc_new _ _ _ _
  have hb_x1_3_6 : w6.cell? ⟨w5.heap.size, 3, none⟩ = some (.slice a3x1 x1.labels.length c3x1) := by rw [hx6.cell (by simp)]; exact World.cell?_alloc_new _ _ _ _
  have hb_x1_4_6 : w6.cell? ⟨w5.heap.size, 4, none⟩ = some (.string x1.start) := by rw [hx6.cell (by simp)]; exact World.cell?_alloc_new _ _ _ _
  have hlt_p0_6 := lt_of_cell hb_p0_0_6
  have hlt_p1_6 := lt_of_cell hb_p1_0_6
  have hlt_x0_6 := lt_of_cell hb_x0_0_6
  have hlt_x1_6 := lt_of_cell hb_x1_0_6
  clear hb_p0_0_5 hb_p0_1_5 hb_p0_2_5 hb_p0_3_5 hb_p0_4_5 hb_p1_0_5 hb_p1_1_5 hb_p1_2_5 hb_p1_3_5 hb_p1_4_5 hb_x0_0_5 hb_x0_1_5 hb_x0_2_5 hb_x0_3_5 hb_x0_4_5 hlt_p0_5 hlt_p1_5 hlt_x0_5
  have hS0_6 := Lib.hid (hS0_5.out.ext hy6)
  have hS1_6 := Lib.hid (hS1_5.out.ext hy6)
  go_wp2_with fail
  refine wp_region_facts (fun i v w => match i with
    | 0 => v = .agg #[.int .i64 x0.net.places, .slice a1x0 x0.net.trs.length c1x0, .slice a2x0 x0.signals.length c2x0, .slice a3x0 x0.labels.length c3x0, .string x0.start]
    | 1 => v = .agg #[.int .i64 x0.net.places, .slice a1p0 x0.net.trs.length c1p0, .slice a2p0 x0.signals.length c2p0, .slice a3p0 x0.labels.length c3p0, .string x0.start]
    | 2 => ∃ a1q c1q a2q c2q a3q c3q, v = .agg #[.int .i64 x0.net.places, .slice a1q x0.net.trs.length c1q, .slice a2q x0.signals.length c2q, .slice a3q x0.labels.length c3q, .string x0.start] ∧ tStg.R w x0 [.int .i64 x0.net.places, .slice a1q x0.net.trs.length c1q, .slice a2q x0.signals.length c2q, .slice a3q x0.labels.length c3q, .string x0.start]
    | 3 => v = .bool true
    | _ => v = .bool false) (by kernel_rfl) (by kernel_rfl) ?_ ?_ ?_
  · intro i v v1 v2 hi hv he
    match i, hv with
    | 0, hv => exact hv
    | 1, hv => exact hv
    | 2, ⟨a1q, c1q, a2q, c2q, a3q, c3q, h1, h2⟩ => exact ⟨a1q, c1q, a2q, c2q, a3q, c3q, h1, h2.ext he⟩
    | 3, hv => exact hv
    | _ + 4, hv => exact hv
  · intro i o hi a' w' hx ho hd
    have e_x0_0 : w'.cell? ⟨w4.heap.size, 0, none⟩ = some (.int .i64 x0.net.places) := by rw [hx.cell (lt_of_cell hb_x0_0_6)]; exact hb_x0_0_6
    have e_x0_1 : w'.cell? ⟨w4.heap.size, 1, none⟩ = some (.slice a1x0 x0.net.trs.length c1x0) := by rw [hx.cell (lt_of_cell hb_x0_1_6)]; exact hb_x0_1_6
    have e_x0_2 : w'.cell? ⟨w4.heap.size, 2, none⟩ = some (.slice a2x0 x0.signals.length c2x0) := by rw [hx.cell (lt_of_cell hb_x0_2_6)]; exact hb_x0_2_6
    have e_x0_3 : w'.cell? ⟨w4.heap.size, 3, none⟩ = some (.slice a3x0 x0.labels.length c3x0) := by rw [hx.cell (lt_of_cell hb_x0_3_6)]; exact hb_x0_3_6
    have e_x0_4 : w'.cell? ⟨w4.heap.size, 4, none⟩ = some (.string x0.start) := by rw [hx.cell (lt_of_cell hb_x0_4_6)]; exact hb_x0_4_6
    have e_p0_0 : w'.cell? ⟨w.heap.size, 0, none⟩ = some (.int .i64 x0.net.places) := by rw [hx.cell (lt_of_cell hb_p0_0_6)]; exact hb_p0_0_6
    have e_p0_1 : w'.cell? ⟨w.heap.size, 1, none⟩ = some (.slice a1p0 x0.net.trs.length c1p0) := by rw [hx.cell (lt_of_cell hb_p0_1_6)]; exact hb_p0_1_6
    have e_p0_2 : w'.cell? ⟨w.heap.size, 2, none⟩ = some (.slice a2p0 x0.signals.length c2p0) := by rw [hx.cell (lt_of_cell hb_p0_2_6)]; exact hb_p0_2_6
    have e_p0_3 : w'.cell? ⟨w.heap.size, 3, none⟩ = some (.slice a3p0 x0.labels.length c3p0) := by rw [hx.cell (lt_of_cell hb_p0_3_6)]; exact hb_p0_3_6
    have e_p0_4 : w'.cell? ⟨w.heap.size, 4, none⟩ = some (.string x0.start) := by rw [hx.cell (lt_of_cell hb_p0_4_6)]; exact hb_p0_4_6
    match i, hi with
    | 0, hi =>
      cases hi
      have e1 : a'.tmps.getD 7 undef = .pointer (some ⟨w4.heap.size, 0, none⟩) := ho 7 (by decide)
      refine wpv_value (v := .agg #[.int .i64 x0.net.places, .slice a1x0 x0.net.trs.length c1x0, .slice a2x0 x0.signals.length c2x0, .slice a3x0 x0.labels.length c3x0, .string x0.start]) ?_ rfl
      simp [go_sem, Act.eval, e1, e_x0_0, e_x0_1, e_x0_2, e_x0_3, e_x0_4]
    | 1, hi =>
      cases hi
      have e1 : a'.tmps.getD 2 undef = .pointer (some ⟨w.heap.size, 0, none⟩) := ho 2 (by decide)
      refine wpv_value (v := .agg #[.int .i64 x0.net.places, .slice a1p0 x0.net.trs.length c1p0, .slice a2p0 x0.signals.length c2p0, .slice a3p0 x0.labels.length c3p0, .string x0.start]) ?_ rfl
      simp [go_sem, Act.eval, e1, e_p0_0, e_p0_1, e_p0_2, e_p0_3, e_p0_4]
    | 2, hi =>
      cases hi
      have e2 : a'.tmps.getD 36 undef = .agg #[.int .i64 x0.net.places, .slice a1p0 x0.net.trs.length c1p0, .slice a2p0 x0.signals.length c2p0, .slice a3p0 x0.labels.length c3p0, .string x0.start] := hd ⟨1, .data⟩ (by simp) rfl _ 36 rfl rfl
      refine wpv_enter (f := 61) (args := #[.agg #[.int .i64 x0.net.places, .slice a1p0 x0.net.trs.length c1p0, .slice a2p0 x0.signals.length c2p0, .slice a3p0 x0.labels.length c3p0, .string x0.start]]) (by simp [go_sem, Act.eval, e2]) ((toSTG_c _ _ _ _ _ _ _ _ (H0.out.ext (hE6.trans hx)) hz0).mono ?_)
      rintro e w6 ⟨a1q, c1q, a2q, c2q, a3q, c3q, rfl, hF6, hx6⟩
      exact ⟨_, rfl, hx6, a1q, c1q, a2q, c2q, a3q, c3q, rfl, hF6.R⟩
    | 3, hi =>
      cases hi
      have e0 : a'.tmps.getD 35 undef = .agg #[.int .i64 x0.net.places, .slice a1x0 x0.net.trs.length c1x0, .slice a2x0 x0.signals.length c2x0, .slice a3x0 x0.labels.length c3x0, .string x0.start] := hd ⟨0, .data⟩ (by simp) rfl _ 35 rfl rfl
      obtain ⟨a1q, c1q, a2q, c2q, a3q, c3q, e2, hR6⟩ : ∃ a1q c1q a2q c2q a3q c3q, a'.tmps.getD 37 undef = .agg #[.int .i64 x0.net.places, .slice a1q x0.net.trs.length c1q, .slice a2q x0.signals.length c2q, .slice a3q x0.labels.length c3q, .string x0.start] ∧ tStg.R w' x0 [.int .i64 x0.net.places, .slice a1q x0.net.trs.length c1q, .slice a2q x0.signals.length c2q, .slice a3q x0.labels.length c3q, .string x0.start] := hd ⟨2, .data⟩ (by simp) rfl _ 37 rfl rfl
      refine wpv_enter (f := 63) (args := #[.agg #[.int .i64 x0.net.places, .slice a1x0 x0.net.trs.length c1x0, .slice a2x0 x0.signals.length c2x0, .slice a3x0 x0.labels.length c3x0, .string x0.start], .agg #[.int .i64 x0.net.places, .slice a1q x0.net.trs.length c1q, .slice a2q x0.signals.length c2q, .slice a3q x0.labels.length c3q, .string x0.start]]) (by simp [go_sem, Act.eval, e0, e2]) ((eqSTG_c _ _ _ _ _ _ _ _ _ _ _ _ _ _ (hS0_6.out.ext hx) hR6).mono ?_)
      rintro e w6 ⟨rfl, hx6⟩
      exact ⟨_, rfl, hx6, rfl⟩
    | 4, hi =>
      cases hi
      have e3 : a'.tmps.getD 38 undef = .bool true := hd ⟨3, .data⟩ (by simp) rfl _ 38 rfl rfl
      exact wpv_value (v := .bool false) (by simp [go_sem, Act.eval, e3]) rfl
  intro vs w7 hx7 hv
  have e4 : vs 4 = .bool false := hv 4 (by decide)
  simp only [fillF, e4, List.setIfInBounds_toArray, List.set]
  clear hv e4
  have hy7 : Ext w6 w7 := hx7
  have hE7 := hE6.trans hy7
  have hb_p0_0_7 : w7.cell? ⟨w.heap.size, 0, none⟩ = some (.int .i64 x0.net.places) := by rw [hy7.cell (lt_of_cell hb_p0_0_6)]; exact hb_p0_0_6
  have hb_p0_1_7 : w7.cell? ⟨w.heap.size, 1, none⟩ = some (.slice a1p0 x0.net.trs.length c1p0) := by rw [hy7.cell (lt_of_cell hb_p0_1_6)]; exact hb_p0_1_6
  have hb_p0_2_7 : w7.cell? ⟨w.heap.size, 2, none⟩ = some (.slice a2p0 x0.signals.length c2p0) := by rw [hy7.cell (lt_of_cell hb_p0_2_6)]; exact hb_p0_2_6
  have hb_p0_3_7 : w7.cell? ⟨w.heap.size, 3, none⟩ = some (.slice a3p0 x0.labels.length c3p0) := by rw [hy7.cell (lt_of_cell hb_p0_3_6)]; exact hb_p0_3_6
  have hb_p0_4_7 : w7.cell? ⟨w.heap.size, 4, none⟩ = some (.string x0.start) := by rw [hy7.cell (lt_of_cell hb_p0_4_6)]; exact hb_p0_4_6
  have hb_p1_0_7 : w7.cell? ⟨w.heap.size + 1, 0, none⟩ = some (.int .i64 x1.net.places) := by rw [hy7.cell (lt_of_cell hb_p1_0_6)]; exact hb_p1_0_6
  have hb_p1_1_7 : w7.cell? ⟨w.heap.size + 1, 1, none⟩ = some (.slice a1p1 x1.net.trs.length c1p1) := by rw [hy7.cell (lt_of_cell hb_p1_1_6)]; exact hb_p1_1_6
  have hb_p1_2_7 : w7.cell? ⟨w.heap.size + 1, 2, none⟩ = some (.slice a2p1 x1.signals.length c2p1) := by rw [hy7.cell (lt_of_cell hb_p1_2_6)]; exact hb_p1_2_6
  have hb_p1_3_7 : w7.cell? ⟨w.heap.size + 1, 3, none⟩ = some (.slice a3p1 x1.labels.length c3p1) := by rw [hy7.cell (lt_of_cell hb_p1_3_6)]; exact hb_p1_3_6
  have hb_p1_4_7 : w7.cell? ⟨w.heap.size + 1, 4, none⟩ = some (.string x1.start) := by rw [hy7.cell (lt_of_cell hb_p1_4_6)]; exact hb_p1_4_6
  have hb_x0_0_7 : w7.cell? ⟨w4.heap.size, 0, none⟩ = some (.int .i64 x0.net.places) := by rw [hy7.cell (lt_of_cell hb_x0_0_6)]; exact hb_x0_0_6
  have hb_x0_1_7 : w7.cell? ⟨w4.heap.size, 1, none⟩ = some (.slice a1x0 x0.net.trs.length c1x0) := by rw [hy7.cell (lt_of_cell hb_x0_1_6)]; exact hb_x0_1_6
  have hb_x0_2_7 : w7.cell? ⟨w4.heap.size, 2, none⟩ = some (.slice a2x0 x0.signals.length c2x0) := by rw [hy7.cell (lt_of_cell hb_x0_2_6)]; exact hb_x0_2_6
  have hb_x0_3_7 : w7.cell? ⟨w4.heap.size, 3, none⟩ = some (.slice a3x0 x0.labels.length c3x0) := by rw [hy7.cell (lt_of_cell hb_x0_3_6)]; exact hb_x0_3_6
  have hb_x0_4_7 : w7.cell? ⟨w4.heap.size, 4, none⟩ = some (.string x0.start) := by rw [hy7.cell (lt_of_cell hb_x0_4_6)]; exact hb_x0_4_6
  have hb_x1_0_7 : w7.cell? ⟨w5.heap.size, 0, none⟩ = some (.int .i64 x1.net.places) := by rw [hy7.cell (lt_of_cell hb_x1_0_6)]; exact hb_x1_0_6
  have hb_x1_1_7 : w7.cell? ⟨w5.heap.size, 1, none⟩ = some (.slice a1x1 x1.net.trs.length c1x1) := by rw [hy7.cell (lt_of_cell hb_x1_1_6)]; exact hb_x1_1_6
  have hb_x1_2_7 : w7.cell? ⟨w5.heap.size, 2, none⟩ = some (.slice a2x1 x1.signals.length c2x1) := by rw [hy7.cell (lt_of_cell hb_x1_2_6)]; exact hb_x1_2_6
  have hb_x1_3_7 : w7.cell? ⟨w5.heap.size, 3, none⟩ = some (.slice a3x1 x1.labels.length c3x1) := by rw [hy7.cell (lt_of_cell hb_x1_3_6)]; exact hb_x1_3_6
  have hb_x1_4_7 : w7.cell? ⟨w5.heap.size, 4, none⟩ = some (.string x1.start) := by rw [hy7.cell (lt_of_cell hb_x1_4_6)]; exact hb_x1_4_6
  have hlt_p0_7 := lt_of_cell hb_p0_0_7
  have hlt_p1_7 := lt_of_cell hb_p1_0_7
  have hlt_x0_7 := lt_of_cell hb_x0_0_7
  have hlt_x1_7 := lt_of_cell hb_x1_0_7
  clear hb_p0_0_6 hb_p0_1_6 hb_p0_2_6 hb_p0_3_6 hb_p0_4_6 hb_p1_0_6 hb_p1_1_6 hb_p1_2_6 hb_p1_3_6 hb_p1_4_6 hb_x0_0_6 hb_x0_1_6 hb_x0_2_6 hb_x0_3_6 hb_x0_4_6 hb_x1_0_6 hb_x1_1_6 hb_x1_2_6 hb_x1_3_6 hb_x1_4_6 hlt_p0_6 hlt_p1_6 hlt_x0_6 hlt_x1_6
  have hS0_7 := Lib.hid (hS0_6.out.ext hy7)
  have hS1_7 := Lib.hid (hS1_6.out.ext hy7)
  go_wp2_with fail
  refine wp_region_facts (fun i v w => match i with
    | 0 => v = .agg #[.int .i64 x1.net.places, .slice a1x1 x1.net.trs.length c1x1, .slice a2x1 x1.signals.length c2x1, .slice a3x1 x1.labels.length c3x1, .string x1.start]
    | 1 => v = .agg #[.int .i64 x1.net.places, .slice a1p1 x1.net.trs.length c1p1, .slice a2p1 x1.signals.length c2p1, .slice a3p1 x1.labels.length c3p1, .string x1.start]
    | 2 => ∃ a1q c1q a2q c2q a3q c3q, v = .agg #[.int .i64 x1.net.places, .slice a1q x1.net.trs.length c1q, .slice a2q x1.signals.length c2q, .slice a3q x1.labels.length c3q, .string x1.start] ∧ tStg.R w x1 [.int .i64 x1.net.places, .slice a1q x1.net.trs.length c1q, .slice a2q x1.signals.length c2q, .slice a3q x1.labels.length c3q, .string x1.start]
    | 3 => v = .bool true
    | _ => v = .bool false) (by kernel_rfl) (by kernel_rfl) ?_ ?_ ?_
  · intro i v v1 v2 hi hv he
    match i, hv with
    | 0, hv => exact hv
    | 1, hv => exact hv
    | 2, ⟨a1q, c1q, a2q, c2q, a3q, c3q, h1, h2⟩ => exact ⟨a1q, c1q, a2q, c2q, a3q, c3q, h1, h2.ext he⟩
    | 3, hv => exact hv
    | _ + 4, hv => exact hv
  · intro i o hi a' w' hx ho hd
    have e_x1_0 : w'.cell? ⟨w5.heap.size, 0, none⟩ = some (.int .i64 x1.net.places) := by rw [hx.cell (lt_of_cell hb_x1_0_7)]; exact hb_x1_0_7
    have e_x1_1 : w'.cell? ⟨w5.heap.size, 1, none⟩ = some (.slice a1x1 x1.net.trs.length c1x1) := by rw [hx.cell (lt_of_cell hb_x1_1_7)]; exact hb_x1_1_7
    have e_x1_2 : w'.cell? ⟨w5.heap.size, 2, none⟩ = some (.slice a2x1 x1.signals.length c2x1) := by rw [hx.cell (lt_of_cell hb_x1_2_7)]; exact hb_x1_2_7
    have e_x1_3 : w'.cell? ⟨w5.heap.size, 3, none⟩ = some (.slice a3x1 x1.labels.length c3x1) := by rw [hx.cell (lt_of_cell hb_x1_3_7)]; exact hb_x1_3_7
    have e_x1_4 : w'.cell? ⟨w5.heap.size, 4, none⟩ = some (.string x1.start) := by rw [hx.cell (lt_of_cell hb_x1_4_7)]; exact hb_x1_4_7
    have e_p1_0 : w'.cell? ⟨w.heap.size + 1, 0, none⟩ = some (.int .i64 x1.net.places) := by rw [hx.cell (lt_of_cell hb_p1_0_7)]; exact hb_p1_0_7
    have e_p1_1 : w'.cell? ⟨w.heap.size + 1, 1, none⟩ = some (.slice a1p1 x1.net.trs.length c1p1) := by rw [hx.cell (lt_of_cell hb_p1_1_7)]; exact hb_p1_1_7
    have e_p1_2 : w'.cell? ⟨w.heap.size + 1, 2, none⟩ = some (.slice a2p1 x1.signals.length c2p1) := by rw [hx.cell (lt_of_cell hb_p1_2_7)]; exact hb_p1_2_7
    have e_p1_3 : w'.cell? ⟨w.heap.size + 1, 3, none⟩ = some (.slice a3p1 x1.labels.length c3p1) := by rw [hx.cell (lt_of_cell hb_p1_3_7)]; exact hb_p1_3_7
    have e_p1_4 : w'.cell? ⟨w.heap.size + 1, 4, none⟩ = some (.string x1.start) := by rw [hx.cell (lt_of_cell hb_p1_4_7)]; exact hb_p1_4_7
    match i, hi with
    | 0, hi =>
      cases hi
      have e1 : a'.tmps.getD 8 undef = .pointer (some ⟨w5.heap.size, 0, none⟩) := ho 8 (by decide)
      refine wpv_value (v := .agg #[.int .i64 x1.net.places, .slice a1x1 x1.net.trs.length c1x1, .slice a2x1 x1.signals.length c2x1, .slice a3x1 x1.labels.length c3x1, .string x1.start]) ?_ rfl
      simp [go_sem, Act.eval, e1, e_x1_0, e_x1_1, e_x1_2, e_x1_3, e_x1_4]
    | 1, hi =>
      cases hi
      have e1 : a'.tmps.getD 3 undef = .pointer (some ⟨w.heap.size + 1, 0, none⟩) := ho 3 (by decide)
      refine wpv_value (v := .agg #[.int .i64 x1.net.places, .slice a1p1 x1.net.trs.length c1p1, .slice a2p1 x1.signals.length c2p1, .slice a3p1 x1.labels.length c3p1, .string x1.start]) ?_ rfl
      simp [go_sem, Act.eval, e1, e_p1_0, e_p1_1, e_p1_2, e_p1_3, e_p1_4]
    | 2, hi =>
      cases hi
      have e2 : a'.tmps.getD 41 undef = .agg #[.int .i64 x1.net.places, .slice a1p1 x1.net.trs.length c1p1, .slice a2p1 x1.signals.length c2p1, .slice a3p1 x1.labels.length c3p1, .string x1.start] := hd ⟨1, .data⟩ (by simp) rfl _ 41 rfl rfl
      refine wpv_enter (f := 61) (args := #[.agg #[.int .i64 x1.net.places, .slice a1p1 x1.net.trs.length c1p1, .slice a2p1 x1.signals.length c2p1, .slice a3p1 x1.labels.length c3p1, .string x1.start]]) (by simp [go_sem, Act.eval, e2]) ((toSTG_c _ _ _ _ _ _ _ _ (H1.out.ext (hE7.trans hx)) hz1).mono ?_)
      rintro e w6 ⟨a1q, c1q, a2q, c2q, a3q, c3q, rfl, hF6, hx6⟩
      exact ⟨_, rfl, hx6, a1q, c1q, a2q, c2q, a3q, c3q, rfl, hF6.R⟩
    | 3, hi =>
      cases hi
      have e0 : a'.tmps.getD 40 undef = .agg #[.int .i64 x1.net.places, .slice a1x1 x1.net.trs.length c1x1, .slice a2x1 x1.signals.length c2x1, .slice a3x1 x1.labels.length c3x1, .string x1.start] := hd ⟨0, .data⟩ (by simp) rfl _ 40 rfl rfl
      obtain ⟨a1q, c1q, a2q, c2q, a3q, c3q, e2, hR6⟩ : ∃ a1q c1q a2q c2q a3q c3q, a'.tmps.getD 42 undef = .agg #[.int .i64 x1.net.places, .slice a1q x1.net.trs.length c1q, .slice a2q x1.signals.length c2q, .slice a3q x1.labels.length c3q, .string x1.start] ∧ tStg.R w' x1 [.int .i64 x1.net.places, .slice a1q x1.net.trs.length c1q, .slice a2q x1.signals.length c2q, .slice a3q x1.labels.length c3q, .string x1.start] := hd ⟨2, .data⟩ (by simp) rfl _ 42 rfl rfl
      refine wpv_enter (f := 63) (args := #[.agg #[.int .i64 x1.net.places, .slice a1x1 x1.net.trs.length c1x1, .slice a2x1 x1.signals.length c2x1, .slice a3x1 x1.labels.length c3x1, .string x1.start], .agg #[.int .i64 x1.net.places, .slice a1q x1.net.trs.length c1q, .slice a2q x1.signals.length c2q, .slice a3q x1.labels.length c3q, .string x1.start]]) (by simp [go_sem, Act.eval, e0, e2]) ((eqSTG_c _ _ _ _ _ _ _ _ _ _ _ _ _ _ (hS1_7.out.ext hx) hR6).mono ?_)
      rintro e w6 ⟨rfl, hx6⟩
      exact ⟨_, rfl, hx6, rfl⟩
    | 4, hi =>
      cases hi
      have e3 : a'.tmps.getD 43 undef = .bool true := hd ⟨3, .data⟩ (by simp) rfl _ 43 rfl rfl
      exact wpv_value (v := .bool false) (by simp [go_sem, Act.eval, e3]) rfl
  intro vs w8 hx8 hv
  have e4 : vs 4 = .bool false := hv 4 (by decide)
  simp only [fillF, e4, List.setIfInBounds_toArray, List.set]
  clear hv e4
  have hy8 : Ext w7 w8 := hx8
  have hE8 := hE7.trans hy8
  have hb_p0_0_8 : w8.cell? ⟨w.heap.size, 0, none⟩ = some (.int .i64 x0.net.places) := by rw [hy8.cell (lt_of_cell hb_p0_0_7)]; exact hb_p0_0_7
  have hb_p0_1_8 : w8.cell? ⟨w.heap.size, 1, none⟩ = some (.slice a1p0 x0.net.trs.length c1p0) := by rw [hy8.cell (lt_of_cell hb_p0_1_7)]; exact hb_p0_1_7
  have hb_p0_2_8 : w8.cell? ⟨w.heap.size, 2, none⟩ = some (.slice a2p0 x0.signals.length c2p0) := by rw [hy8.cell (lt_of_cell hb_p0_2_7)]; exact hb_p0_2_7
  have hb_p0_3_8 : w8.cell? ⟨w.heap.size, 3, none⟩ = some (.slice a3p0 x0.labels.length c3p0) := by rw [hy8.cell (lt_of_cell hb_p0_3_7)]; exact hb_p0_3_7
  have hb_p0_4_8 : w8.cell? ⟨w.heap.size, 4, none⟩ = some (.string x0.start) := by rw [hy8.cell (lt_of_cell hb_p0_4_7)]; exact hb_p0_4_7
  have hb_p1_0_8 : w8.cell? ⟨w.heap.size + 1, 0, none⟩ = some (.int .i64 x1.net.places) := by rw [hy8.cell (lt_of_cell hb_p1_0_7)]; exact hb_p1_0_7
  have hb_p1_1_8 : w8.cell? ⟨w.heap.size + 1, 1, none⟩ = some (.slice a1p1 x1.net.trs.length c1p1) := by rw [hy8.cell (lt_of_cell hb_p1_1_7)]; exact hb_p1_1_7
  have hb_p1_2_8 : w8.cell? ⟨w.heap.size + 1, 2, none⟩ = some (.slice a2p1 x1.signals.length c2p1) := by rw [hy8.cell (lt_of_cell hb_p1_2_7)]; exact hb_p1_2_7
  have hb_p1_3_8 : w8.cell? ⟨w.heap.size + 1, 3, none⟩ = some (.slice a3p1 x1.labels.length c3p1) := by rw [hy8.cell (lt_of_cell hb_p1_3_7)]; exact hb_p1_3_7
  have hb_p1_4_8 : w8.cell? ⟨w.heap.size + 1, 4, none⟩ = some (.string x1.start) := by rw [hy8.cell (lt_of_cell hb_p1_4_7)]; exact hb_p1_4_7
  have hb_x0_0_8 : w8.cell? ⟨w4.heap.size, 0, none⟩ = some (.int .i64 x0.net.places) := by rw [hy8.cell (lt_of_cell hb_x0_0_7)]; exact hb_x0_0_7
  have hb_x0_1_8 : w8.cell? ⟨w4.heap.size, 1, none⟩ = some (.slice a1x0 x0.net.trs.length c1x0) := by rw [hy8.cell (lt_of_cell hb_x0_1_7)]; exact hb_x0_1_7
  have hb_x0_2_8 : w8.cell? ⟨w4.heap.size, 2, none⟩ = some (.slice a2x0 x0.signals.length c2x0) := by rw [hy8.cell (lt_of_cell hb_x0_2_7)]; exact hb_x0_2_7
  have hb_x0_3_8 : w8.cell? ⟨w4.heap.size, 3, none⟩ = some (.slice a3x0 x0.labels.length c3x0) := by rw [hy8.cell (lt_of_cell hb_x0_3_7)]; exact hb_x0_3_7
  have hb_x0_4_8 : w8.cell? ⟨w4.heap.size, 4, none⟩ = some (.string x0.start) := by rw [hy8.cell (lt_of_cell hb_x0_4_7)]; exact hb_x0_4_7
  have hb_x1_0_8 : w8.cell? ⟨w5.heap.size, 0, none⟩ = some (.int .i64 x1.net.places) := by rw [hy8.cell (lt_of_cell hb_x1_0_7)]; exact hb_x1_0_7
  have hb_x1_1_8 : w8.cell? ⟨w5.heap.size, 1, none⟩ = some (.slice a1x1 x1.net.trs.length c1x1) := by rw [hy8.cell (lt_of_cell hb_x1_1_7)]; exact hb_x1_1_7
  have hb_x1_2_8 : w8.cell? ⟨w5.heap.size, 2, none⟩ = some (.slice a2x1 x1.signals.length c2x1) := by rw [hy8.cell (lt_of_cell hb_x1_2_7)]; exact hb_x1_2_7
  have hb_x1_3_8 : w8.cell? ⟨w5.heap.size, 3, none⟩ = some (.slice a3x1 x1.labels.length c3x1) := by rw [hy8.cell (lt_of_cell hb_x1_3_7)]; exact hb_x1_3_7
  have hb_x1_4_8 : w8.cell? ⟨w5.heap.size, 4, none⟩ = some (.string x1.start) := by rw [hy8.cell (lt_of_cell hb_x1_4_7)]; exact hb_x1_4_7
  have hlt_p0_8 := lt_of_cell hb_p0_0_8
  have hlt_p1_8 := lt_of_cell hb_p1_0_8
  have hlt_x0_8 := lt_of_cell hb_x0_0_8
  have hlt_x1_8 := lt_of_cell hb_x1_0_8
  clear hb_p0_0_7 hb_p0_1_7 hb_p0_2_7 hb_p0_3_7 hb_p0_4_7 hb_p1_0_7 hb_p1_1_7 hb_p1_2_7 hb_p1_3_7 hb_p1_4_7 hb_x0_0_7 hb_x0_1_7 hb_x0_2_7 hb_x0_3_7 hb_x0_4_7 hb_x1_0_7 hb_x1_1_7 hb_x1_2_7 hb_x1_3_7 hb_x1_4_7 hlt_p0_7 hlt_p1_7 hlt_x0_7 hlt_x1_7
  have hS0_8 := Lib.hid (hS0_7.out.ext hy8)
  have hS1_8 := Lib.hid (hS1_7.out.ext hy8)
  go_wp2
  go_ret
  exact ⟨rfl, hE8⟩

theorem own : ownKnob Try.prog.godebug = none := by kernel_rfl

set_option maxRecDepth 100000 in
theorem lifted (os : Os) (started : os.Started) (H : Type) (enc : TypeId × Value → H) :
    ReturnsInHanded {} Try.checked os 12 .any (Rows.fnExactEqualSTGSpec.pre6 enc Try.prog Try.f12 Rows.fnExactEqualSTGRow.domain false) (Rows.fnExactEqualSTGSpec.post enc Try.prog Try.f12 false true false false) := by
  refine returnsInHanded_of_change (C := Try.checked) own started (by kernel_rfl) Try.func12
    (ChangeSpec.witness6 (enc := enc) (C := Try.checked) false ⟨#[], #[.agg #[.int .i64 0, .slice none 0 0, .slice none 0 0, .slice none 0 0, .string ⟨#[]⟩], .agg #[.int .i64 0, .slice none 0 0, .slice none 0 0, .slice none 0 0, .string ⟨#[]⟩]], []⟩ 8 (by kernel_rfl) (by kernel_rfl) (by kernel_rfl) (by kernel_rfl)) ?_
  intro W base args ds gs before hval0 hW hcnd _
  have hval : ∀ (j : Nat) t v, Try.f12.params[j]? = some t → args[j]? = some v → Value.okWide Try.prog W .any base t v := hval0
  have hW' := hW
  have hlt := fun p hp => DataW.Whole.lt hW p hp
  obtain ⟨p, q, hA0, hV, rfl, hfz, hnd⟩ := hW
  have hA : DataW.TrodAll enc Try.prog W 0 (fun _ => true) true Try.f12.params.toList args.toList ds p := hA0
  have hA1 := hA
  rw [Try.params12] at hA hval
  obtain ⟨v0, vs0, d0, ds0, p0, q0, hargs, rfl, _, h0, r0⟩ := trodAll_cons hA
  obtain ⟨v1, vs1, d1, ds1, p1, q1, rfl, rfl, _, h1, r1⟩ := trodAll_cons r0
  obtain ⟨rfl, rfl, _⟩ := trodAll_nil r1
  obtain rfl : args = #[v0, v1] := by cases args; simp_all
  obtain ⟨rfl, rfl⟩ := trodVars_none hV
  obtain ⟨cs0, x0, rfl, hx0⟩ := open_struct opens_Stg Try.underlying92 (hval 0 92 v0 rfl rfl) h0
  obtain ⟨a1_0, c1_0, a2_0, c2_0, a3_0, c3_0, e0⟩ := shape_Stg hx0
  obtain rfl : cs0 = #[.int .i64 x0.net.places, .slice a1_0 x0.net.trs.length c1_0, .slice a2_0 x0.signals.length c2_0, .slice a3_0 x0.labels.length c3_0, .string x0.start] := by rw [← Array.toArray_toList (xs := cs0), e0]
  obtain ⟨cs1, x1, rfl, hx1⟩ := open_struct opens_Stg Try.underlying92 (hval 1 92 v1 rfl rfl) h1
  obtain ⟨a1_1, c1_1, a2_1, c2_1, a3_1, c3_1, e1⟩ := shape_Stg hx1
  obtain rfl : cs1 = #[.int .i64 x1.net.places, .slice a1_1 x1.net.trs.length c1_1, .slice a2_1 x1.signals.length c2_1, .slice a3_1 x1.labels.length c3_1, .string x1.start] := by rw [← Array.toArray_toList (xs := cs1), e1]
  clear hA0 hval0
  refine (walk W a1_0 c1_0 a2_0 c2_0 a3_0 c3_0 x0 hx0 a1_1 c1_1 a2_1 c2_1 a3_1 c3_1 x1 hx1).mono fun e W' ⟨he, hg⟩ => ?_
  subst he
  refine ⟨_, rfl, post_of_below (pa := p) (pv := []) hW' (fun _ _ _ => (trodAll_cons_mk (shut_bool Try.underlying4 _) trodAll_mk0)) (fun sp hsp => ?_) (fun sp _ => rfl) rfl hg (ok_one (by kernel_rfl) rfl (okWide_bool_mk Try.underlying4 _))⟩
  exact trodAll_below (by kernel_rfl) hg (of_decide_eq_true (by kernel_rfl)) hA1 (fun x hx => hlt x (List.mem_append_left _ hx)) (fun x hx => hsp x (List.mem_append_left _ hx))

theorem part9 : (Rows.fnExactEqualSTGRow.inPlace == Try.checked.prog.inPlace 12) = true := by kernel_rfl
theorem part10 : (Rows.fnExactEqualSTGRow.unfollowed == Try.checked.prog.unfollowed 12) = true := by kernel_rfl
theorem part11 : (Rows.fnExactEqualSTGRow.recurses == Try.checked.prog.recurses 12) = true := by kernel_rfl
theorem part12 : (Rows.fnExactEqualSTGRow.named == Try.checked.prog.varsNamed 12) = true := by kernel_rfl
theorem named : Try.checked.prog.funcNamed Rows.fnExactEqualSTGRow.func = some 12 := by kernel_rfl
theorem closed : joinedFacts Try.checked.prog 12 Try.f12 Rows.fnExactEqualSTGSpec Rows.fnExactEqualSTGRow = true := by
  unfold joinedFacts
  exact (and_tt (and_tt (and_tt (and_tt (and_tt (and_tt (and_tt (and_tt (and_tt (and_tt (and_tt (and_tt (and_tt (and_tt (and_tt (and_tt (and_tt (and_tt (and_tt (and_tt (and_tt (and_tt (and_tt (and_tt (and_tt (and_tt (and_tt (and_tt (and_tt (and_tt (and_tt (by kernel_rfl) glob1) glob2) (by kernel_rfl)) (by kernel_rfl)) (by kernel_rfl)) glob6) (by kernel_rfl)) glob8) part9) part10) part11) part12) (by kernel_rfl)) (by kernel_rfl)) (by kernel_rfl)) (by kernel_rfl)) (by kernel_rfl)) (by kernel_rfl)) (by kernel_rfl)) (by kernel_rfl)) (by kernel_rfl)) glob22) (by kernel_rfl)) glob24) glob25) glob26) glob27) (by kernel_rfl)) (by kernel_rfl)) (by kernel_rfl)) (by kernel_rfl))

theorem over : Rows.fnExactEqualSTGRow.holds Try.pinned (OpenSpec.ofChange Rows.fnExactEqualSTGSpec) :=
  OpenClaim.holds_of_wide 12 Try.f12 rfl rfl rfl rfl rfl rfl rfl ⟨rfl, rfl, rfl, rfl, rfl⟩ rfl rfl rfl rfl rfl named Try.func12 closed
    (of_decide_eq_true (by kernel_rfl)) (by unfold Func.isWrapper; first | (rw [if_pos (by decide +kernel)]; kernel_rfl) | (rw [if_neg (by decide +kernel)]; exact ⟨rfl, rfl⟩))
    (fun os started H enc _ => lifted os started H enc)

theorem proved : Rows.FnExactEqualSTGSaid :=
  over
#print axioms proved
end Go.Proofs.Ytboimpalblicnaa.fnExactEqualSTG
