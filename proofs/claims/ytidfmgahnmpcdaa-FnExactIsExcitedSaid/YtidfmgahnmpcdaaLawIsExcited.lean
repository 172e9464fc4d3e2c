/- The law FnExactIsExcited returns true, for every input. -/
import Derived.Test.YtidfmgahnmpcdaaExc
import Derived.Test.YtidfmgahnmpcdaaRegion
import Derived.Test.YtidfmgahnmpcdaaOpens
import Derived.Test.YtidfmgahnmpcdaaFacts
set_option linter.unusedSimpArgs false
set_option linter.unusedVariables false
namespace Go.Proofs.Ytidfmgahnmpcdaa.fnExactIsExcited
open Go.ChangeShapes Go.WideShapes Go.ChangeAt Go.RowKit

theorem spec_c (w : World) (a0p0 : Option Addr) (c0p0 : Nat) (a1p0 : Option Addr) (c1p0 : Nat) (a2p0 : Option Addr) (c2p0 : Nat) (x0 : SGraph) (h0 : tSGraph.R w x0 [.slice a0p0 x0.signals.length c0p0, .slice a1p0 x0.codes.length c1p0, .slice a2p0 x0.arcs.length c2p0]) (hz0 : szSGraph x0 ≤ 1048576) (x1 : Int) (hi1 : Int64 x1) (x2 : Int) (hi2 : Int64 x2) : Calls Try.prog 35 #[.agg #[.slice a0p0 x0.signals.length c0p0, .slice a1p0 x0.codes.length c1p0, .slice a2p0 x0.arcs.length c2p0], .int .i64 x1, .int .i64 x2] w fun e w' => e = .returned (.tuple #[.bool (excV x0 x1 x2), .bool (excB x0 x1 x2)]) ∧ Ext w w' :=
  (specIsExcited_f x0 x1 x2).lit2 (.cons (.agg (br_SGraph.vxs h0)) (.cons (VX.of_lit (litOk_i64.2 hi1)) (.cons (VX.of_lit (litOk_i64.2 hi2)) .nil)))
theorem impl_c (w : World) (a0p0 : Option Addr) (c0p0 : Nat) (a1p0 : Option Addr) (c1p0 : Nat) (a2p0 : Option Addr) (c2p0 : Nat) (x0 : SGraph) (h0 : tSGraph.R w x0 [.slice a0p0 x0.signals.length c0p0, .slice a1p0 x0.codes.length c1p0, .slice a2p0 x0.arcs.length c2p0]) (hz0 : szSGraph x0 ≤ 1048576) (x1 : Int) (hi1 : Int64 x1) (x2 : Int) (hi2 : Int64 x2) : Calls Try.prog 36 #[.agg #[.slice a0p0 x0.signals.length c0p0, .slice a1p0 x0.codes.length c1p0, .slice a2p0 x0.arcs.length c2p0], .int .i64 x1, .int .i64 x2] w fun e w' => e = .returned (.tuple #[.bool (excV x0 x1 x2), .bool (excB x0 x1 x2)]) ∧ Ext w w' :=
  (IsExcited_f x0 x1 x2).lit2 (.cons (.agg (br_SGraph.vxs h0)) (.cons (VX.of_lit (litOk_i64.2 hi1)) (.cons (VX.of_lit (litOk_i64.2 hi2)) .nil)))
set_option maxRecDepth 20000 in
set_option maxHeartbeats 4000000 in
theorem walk (w : World) (a0p0 : Option Addr) (c0p0 : Nat) (a1p0 : Option Addr) (c1p0 : Nat) (a2p0 : Option Addr) (c2p0 : Nat) (x0 : SGraph) (h0 : tSGraph.R w x0 [.slice a0p0 x0.signals.length c0p0, .slice a1p0 x0.codes.length c1p0, .slice a2p0 x0.arcs.length c2p0]) (x1 : Int) (hi1 : Int64 x1) (x2 : Int) (hi2 : Int64 x2) :
    Calls Try.prog 8 #[.agg #[.slice a0p0 x0.signals.length c0p0, .slice a1p0 x0.codes.length c1p0, .slice a2p0 x0.arcs.length c2p0], .int .i64 x1, .int .i64 x2] w fun e w' => e = .returned (.bool true) ∧ Ext w w' := by
  have H0 := Lib.hid h0
  clear h0
  have hE0 : Ext w (w.alloc (.cells #[.slice a0p0 x0.signals.length c0p0, .slice a1p0 x0.codes.length c1p0, .slice a2p0 x0.arcs.length c2p0] 62)) := (Ext.alloc (Ext.refl w) _)
  go_enter Try.func8, Try.ntmps8
  go_wp2_with fail
  refine (szStateGraph_c _ _ _ _ _ _ _ _ _ (H0.out.ext hE0) (by omega) (by omega)).mono ?_
  rintro e w1 ⟨rfl, hx1⟩
  have hy1 : Ext (w.alloc (.cells #[.slice a0p0 x0.signals.length c0p0, .slice a1p0 x0.codes.length c1p0, .slice a2p0 x0.arcs.length c2p0] 62)) w1 := hx1
  have hE1 := hE0.trans hy1
  have hb_p0_0_1 : w1.cell? ⟨w.heap.size, 0, none⟩ = some (.slice a0p0 x0.signals.length c0p0) := by rw [hy1.cell (by simp only [World.size_alloc]; omega)]; simp
  have hb_p0_1_1 : w1.cell? ⟨w.heap.size, 1, none⟩ = some (.slice a1p0 x0.codes.length c1p0) := by rw [hy1.cell (by simp only [World.size_alloc]; omega)]; simp
  have hb_p0_2_1 : w1.cell? ⟨w.heap.size, 2, none⟩ = some (.slice a2p0 x0.arcs.length c2p0) := by rw [hy1.cell (by simp only [World.size_alloc]; omega)]; simp
  have hlt_p0_1 := lt_of_cell hb_p0_0_1
  by_cases hq0 : 1048576 < ((szSGraph x0 : Nat) : Int)
  · rw [lessen_neg hq0]
    go_wp2
    go_ret
    exact ⟨rfl, hE1⟩
  rw [lessen_pos (by omega)]
  have hz0 : szSGraph x0 ≤ 1048576 := by omega
  go_wp2_with fail
  refine (toStateGraph_c _ _ _ _ _ _ _ _ (H0.out.ext hE1) hz0).mono ?_
  rintro e w2 ⟨a0s0, c0s0, a1s0, c1s0, a2s0, c2s0, rfl, hF2, hx2⟩
  have hR2 := Lib.hid hF2.R
  clear hF2
  have hy2 : Ext w1 w2 := hx2
  have hE2 := hE1.trans hy2
  have hb_p0_0_2 : w2.cell? ⟨w.heap.size, 0, none⟩ = some (.slice a0p0 x0.signals.length c0p0) := by rw [hy2.cell (lt_of_cell hb_p0_0_1)]; exact hb_p0_0_1
  have hb_p0_1_2 : w2.cell? ⟨w.heap.size, 1, none⟩ = some (.slice a1p0 x0.codes.length c1p0) := by rw [hy2.cell (lt_of_cell hb_p0_1_1)]; exact hb_p0_1_1
  have hb_p0_2_2 : w2.cell? ⟨w.heap.size, 2, none⟩ = some (.slice a2p0 x0.arcs.length c2p0) := by rw [hy2.cell (lt_of_cell hb_p0_2_1)]; exact hb_p0_2_1
  have hlt_p0_2 := lt_of_cell hb_p0_0_2
  clear hb_p0_0_1 hb_p0_1_1 hb_p0_2_1 hlt_p0_1
  go_wp2_with fail
  refine (spec_c _ _ _ _ _ _ _ x0 (hR2.out) hz0 x1 hi1 x2 hi2).mono ?_
  rintro e w3 ⟨rfl, hx3⟩
  have hy3 : Ext w2 w3 := hx3
  have hE3 := hE2.trans hy3
  have hb_p0_0_3 : w3.cell? ⟨w.heap.size, 0, none⟩ = some (.slice a0p0 x0.signals.length c0p0) := by rw [hy3.cell (lt_of_cell hb_p0_0_2)]; exact hb_p0_0_2
  have hb_p0_1_3 : w3.cell? ⟨w.heap.size, 1, none⟩ = some (.slice a1p0 x0.codes.length c1p0) := by rw [hy3.cell (lt_of_cell hb_p0_1_2)]; exact hb_p0_1_2
  have hb_p0_2_3 : w3.cell? ⟨w.heap.size, 2, none⟩ = some (.slice a2p0 x0.arcs.length c2p0) := by rw [hy3.cell (lt_of_cell hb_p0_2_2)]; exact hb_p0_2_2
  have hlt_p0_3 := lt_of_cell hb_p0_0_3
  clear hb_p0_0_2 hb_p0_1_2 hb_p0_2_2 hlt_p0_2
  go_wp2_with fail
  refine (toStateGraph_c _ _ _ _ _ _ _ _ (H0.out.ext hE3) hz0).mono ?_
  rintro e w4 ⟨a0x0, c0x0, a1x0, c1x0, a2x0, c2x0, rfl, hF4, hx4⟩
  have hR4 := Lib.hid hF4.R
  clear hF4
  have hy4 : Ext w3 w4 := hx4
  have hE4 := hE3.trans hy4
  have hb_p0_0_4 : w4.cell? ⟨w.heap.size, 0, none⟩ = some (.slice a0p0 x0.signals.length c0p0) := by rw [hy4.cell (lt_of_cell hb_p0_0_3)]; exact hb_p0_0_3
  have hb_p0_1_4 : w4.cell? ⟨w.heap.size, 1, none⟩ = some (.slice a1p0 x0.codes.length c1p0) := by rw [hy4.cell (lt_of_cell hb_p0_1_3)]; exact hb_p0_1_3
  have hb_p0_2_4 : w4.cell? ⟨w.heap.size, 2, none⟩ = some (.slice a2p0 x0.arcs.length c2p0) := by rw [hy4.cell (lt_of_cell hb_p0_2_3)]; exact hb_p0_2_3
  have hlt_p0_4 := lt_of_cell hb_p0_0_4
  clear hb_p0_0_3 hb_p0_1_3 hb_p0_2_3 hlt_p0_3
  have hS0_4 := hR4
  go_wp2_with fail
  refine (impl_c _ _ _ _ _ _ _ x0 ((hS0_4.out.ext ((Ext.refl _).alloc _))) hz0 x1 hi1 x2 hi2).mono ?_
  rintro e w5 ⟨rfl, hx5⟩
  have hy5 : Ext w4 w5 := ((Ext.refl _).alloc _).trans hx5
  have hE5 := hE4.trans hy5
  have hb_p0_0_5 : w5.cell? ⟨w.heap.size, 0, none⟩ = some (.slice a0p0 x0.signals.length c0p0) := by rw [hy5.cell (lt_of_cell hb_p0_0_4)]; exact hb_p0_0_4
  have hb_p0_1_5 : w5.cell? ⟨w.heap.size, 1, none⟩ = some (.slice a1p0 x0.codes.length c1p0) := by rw [hy5.cell (lt_of_cell hb_p0_1_4)]; exact hb_p0_1_4
  have hb_p0_2_5 : w5.cell? ⟨w.heap.size, 2, none⟩ = some (.slice a2p0 x0.arcs.length c2p0) := by rw [hy5.cell (lt_of_cell hb_p0_2_4)]; exact hb_p0_2_4
  have hb_x0_0_5 : w5.cell? ⟨w4.heap.size, 0, none⟩ = some (.slice a0x0 x0.signals.length c0x0) := by rw [hx5.cell (by simp)]; exact World.cell?_alloc_new _ _ _ _
  have hb_x0_1_5 : w5.cell? ⟨w4.heap.size, 1, none⟩ = some (.slice a1x0 x0.codes.length c1x0) := by rw [hx5.cell (by simp)]; exact World.cell?_alloc_new _ _ _ _
  have hb_x0_2_5 : w5.cell? ⟨w4.heap.size, 2, none⟩ = some (.slice a2x0 x0.arcs.length c2x0) := by rw [hx5.cell (by simp)]; exact World.cell?_alloc_new _ _ _ _
  have hlt_p0_5 := lt_of_cell hb_p0_0_5
  have hlt_x0_5 := lt_of_cell hb_x0_0_5
  clear hb_p0_0_4 hb_p0_1_4 hb_p0_2_4 hlt_p0_4
  have hS0_5 := Lib.hid (hS0_4.out.ext hy5)
  go_wp2_with fail
  refine wp_region_facts (fun i v w => match i with
    | 0 => v = .agg #[.slice a0x0 x0.signals.length c0x0, .slice a1x0 x0.codes.length c1x0, .slice a2x0 x0.arcs.length c2x0]
    | 1 => v = .agg #[.slice a0p0 x0.signals.length c0p0, .slice a1p0 x0.codes.length c1p0, .slice a2p0 x0.arcs.length c2p0]
    | 2 => ∃ a0q c0q a1q c1q a2q c2q, v = .agg #[.slice a0q x0.signals.length c0q, .slice a1q x0.codes.length c1q, .slice a2q x0.arcs.length c2q] ∧ tSGraph.R w x0 [.slice a0q x0.signals.length c0q, .slice a1q x0.codes.length c1q, .slice a2q x0.arcs.length c2q]
    | 3 => v = .bool true
    | _ => v = .bool false) (by kernel_rfl) (by kernel_rfl) ?_ ?_ ?_
  · intro i v v1 v2 hi hv he
    match i, hv with
    | 0, hv => exact hv
    | 1, hv => exact hv
    | 2, ⟨a0q, c0q, a1q, c1q, a2q, c2q, h1, h2⟩ => exact ⟨a0q, c0q, a1q, c1q, a2q, c2q, h1, h2.ext he⟩
    | 3, hv => exact hv
    | _ + 4, hv => exact hv
  · intro i o hi a' w' hx ho hd
    have e_x0_0 : w'.cell? ⟨w4.heap.size, 0, none⟩ = some (.slice a0x0 x0.signals.length c0x0) := by rw [hx.cell (lt_of_cell hb_x0_0_5)]; exact hb_x0_0_5
    have e_x0_1 : w'.cell? ⟨w4.heap.size, 1, none⟩ = some (.slice a1x0 x0.codes.length c1x0) := by rw [hx.cell (lt_of_cell hb_x0_1_5)]; exact hb_x0_1_5
    have e_x0_2 : w'.cell? ⟨w4.heap.size, 2, none⟩ = some (.slice a2x0 x0.arcs.length c2x0) := by rw [hx.cell (lt_of_cell hb_x0_2_5)]; exact hb_x0_2_5
    have e_p0_0 : w'.cell? ⟨w.heap.size, 0, none⟩ = some (.slice a0p0 x0.signals.length c0p0) := by rw [hx.cell (lt_of_cell hb_p0_0_5)]; exact hb_p0_0_5
    have e_p0_1 : w'.cell? ⟨w.heap.size, 1, none⟩ = some (.slice a1p0 x0.codes.length c1p0) := by rw [hx.cell (lt_of_cell hb_p0_1_5)]; exact hb_p0_1_5
    have e_p0_2 : w'.cell? ⟨w.heap.size, 2, none⟩ = some (.slice a2p0 x0.arcs.length c2p0) := by rw [hx.cell (lt_of_cell hb_p0_2_5)]; exact hb_p0_2_5
    match i, hi with
    | 0, hi =>
      cases hi
      have e1 : a'.tmps.getD 10 undef = .pointer (some ⟨w4.heap.size, 0, none⟩) := ho 10 (by decide)
      refine wpv_value (v := .agg #[.slice a0x0 x0.signals.length c0x0, .slice a1x0 x0.codes.length c1x0, .slice a2x0 x0.arcs.length c2x0]) ?_ rfl
      simp [go_sem, Act.eval, e1, e_x0_0, e_x0_1, e_x0_2]
    | 1, hi =>
      cases hi
      have e1 : a'.tmps.getD 3 undef = .pointer (some ⟨w.heap.size, 0, none⟩) := ho 3 (by decide)
      refine wpv_value (v := .agg #[.slice a0p0 x0.signals.length c0p0, .slice a1p0 x0.codes.length c1p0, .slice a2p0 x0.arcs.length c2p0]) ?_ rfl
      simp [go_sem, Act.eval, e1, e_p0_0, e_p0_1, e_p0_2]
    | 2, hi =>
      cases hi
      have e2 : a'.tmps.getD 44 undef = .agg #[.slice a0p0 x0.signals.length c0p0, .slice a1p0 x0.codes.length c1p0, .slice a2p0 x0.arcs.length c2p0] := hd ⟨1, .data⟩ (by simp) rfl _ 44 rfl rfl
      refine wpv_enter (f := 30) (args := #[.agg #[.slice a0p0 x0.signals.length c0p0, .slice a1p0 x0.codes.length c1p0, .slice a2p0 x0.arcs.length c2p0]]) (by simp [go_sem, Act.eval, e2]) ((toStateGraph_c _ _ _ _ _ _ _ _ (H0.out.ext (hE5.trans hx)) hz0).mono ?_)
      rintro e w6 ⟨a0q, c0q, a1q, c1q, a2q, c2q, rfl, hF6, hx6⟩
      exact ⟨_, rfl, hx6, a0q, c0q, a1q, c1q, a2q, c2q, rfl, hF6.R⟩
    | 3, hi =>
      cases hi
      have e0 : a'.tmps.getD 43 undef = .agg #[.slice a0x0 x0.signals.length c0x0, .slice a1x0 x0.codes.length c1x0, .slice a2x0 x0.arcs.length c2x0] := hd ⟨0, .data⟩ (by simp) rfl _ 43 rfl rfl
      obtain ⟨a0q, c0q, a1q, c1q, a2q, c2q, e2, hR6⟩ : ∃ a0q c0q a1q c1q a2q c2q, a'.tmps.getD 45 undef = .agg #[.slice a0q x0.signals.length c0q, .slice a1q x0.codes.length c1q, .slice a2q x0.arcs.length c2q] ∧ tSGraph.R w' x0 [.slice a0q x0.signals.length c0q, .slice a1q x0.codes.length c1q, .slice a2q x0.arcs.length c2q] := hd ⟨2, .data⟩ (by simp) rfl _ 45 rfl rfl
      refine wpv_enter (f := 32) (args := #[.agg #[.slice a0x0 x0.signals.length c0x0, .slice a1x0 x0.codes.length c1x0, .slice a2x0 x0.arcs.length c2x0], .agg #[.slice a0q x0.signals.length c0q, .slice a1q x0.codes.length c1q, .slice a2q x0.arcs.length c2q]]) (by simp [go_sem, Act.eval, e0, e2]) ((eqStateGraph_c _ _ _ _ _ _ _ _ _ _ _ _ _ _ (hS0_5.out.ext hx) hR6).mono ?_)
      rintro e w6 ⟨rfl, hx6⟩
      exact ⟨_, rfl, hx6, rfl⟩
    | 4, hi =>
      cases hi
      have e3 : a'.tmps.getD 46 undef = .bool true := hd ⟨3, .data⟩ (by simp) rfl _ 46 rfl rfl
      exact wpv_value (v := .bool false) (by simp [go_sem, Act.eval, e3]) rfl
  intro vs w6 hx6 hv
  have e4 : vs 4 = .bool false := hv 4 (by decide)
  simp only [fillF, e4, List.setIfInBounds_toArray, List.set]
  clear hv e4
  have hy6 : Ext w5 w6 := hx6
  have hE6 := hE5.trans hy6
  have hb_p0_0_6 : w6.cell? ⟨w.heap.size, 0, none⟩ = some (.slice a0p0 x0.signals.length c0p0) := by rw [hy6.cell (lt_of_cell hb_p0_0_5)]; exact hb_p0_0_5
  have hb_p0_1_6 : w6.cell? ⟨w.heap.size, 1, none⟩ = some (.slice a1p0 x0.codes.length c1p0) := by rw [hy6.cell (lt_of_cell hb_p0_1_5)]; exact hb_p0_1_5
  have hb_p0_2_6 : w6.cell? ⟨w.heap.size, 2, none⟩ = some (.slice a2p0 x0.arcs.length c2p0) := by rw [hy6.cell (lt_of_cell hb_p0_2_5)]; exact hb_p0_2_5
  have hb_x0_0_6 : w6.cell? ⟨w4.heap.size, 0, none⟩ = some (.slice a0x0 x0.signals.length c0x0) := by rw [hy6.cell (lt_of_cell hb_x0_0_5)]; exact hb_x0_0_5
  have hb_x0_1_6 : w6.cell? ⟨w4.heap.size, 1, none⟩ = some (.slice a1x0 x0.codes.length c1x0) := by rw [hy6.cell (lt_of_cell hb_x0_1_5)]; exact hb_x0_1_5
  have hb_x0_2_6 : w6.cell? ⟨w4.heap.size, 2, none⟩ = some (.slice a2x0 x0.arcs.length c2x0) := by rw [hy6.cell (lt_of_cell hb_x0_2_5)]; exact hb_x0_2_5
  have hlt_p0_6 := lt_of_cell hb_p0_0_6
  have hlt_x0_6 := lt_of_cell hb_x0_0_6
  clear hb_p0_0_5 hb_p0_1_5 hb_p0_2_5 hb_x0_0_5 hb_x0_1_5 hb_x0_2_5 hlt_p0_5 hlt_x0_5
  have hS0_6 := Lib.hid (hS0_5.out.ext hy6)
  go_wp2
  go_ret
  exact ⟨rfl, hE6⟩

theorem own : ownKnob Try.prog.godebug = none := by kernel_rfl

set_option maxRecDepth 100000 in
theorem lifted (os : Os) (started : os.Started) (H : Type) (enc : TypeId × Value → H) :
    ReturnsInHanded {} Try.checked os 8 .any (Rows.fnExactIsExcitedSpec.pre6 enc Try.prog Try.f8 Rows.fnExactIsExcitedRow.domain false) (Rows.fnExactIsExcitedSpec.post enc Try.prog Try.f8 false true false false) := by
  refine returnsInHanded_of_change (C := Try.checked) own started (by kernel_rfl) Try.func8
    (ChangeSpec.witness6 (enc := enc) (C := Try.checked) false ⟨#[], #[.agg #[.slice none 0 0, .slice none 0 0, .slice none 0 0], .int .i64 0, .int .i64 0], []⟩ 8 (by kernel_rfl) (by kernel_rfl) (by kernel_rfl) (by kernel_rfl)) ?_
  intro W base args ds gs before hval0 hW hcnd _
  have hval : ∀ (j : Nat) t v, Try.f8.params[j]? = some t → args[j]? = some v → Value.okWide Try.prog W .any base t v := hval0
  have hW' := hW
  have hlt := fun p hp => DataW.Whole.lt hW p hp
  obtain ⟨p, q, hA0, hV, rfl, hfz, hnd⟩ := hW
  have hA : DataW.TrodAll enc Try.prog W 0 (fun _ => true) true Try.f8.params.toList args.toList ds p := hA0
  have hA1 := hA
  rw [Try.params8] at hA hval
  obtain ⟨v0, vs0, d0, ds0, p0, q0, hargs, rfl, _, h0, r0⟩ := trodAll_cons hA
  obtain ⟨v1, vs1, d1, ds1, p1, q1, rfl, rfl, _, h1, r1⟩ := trodAll_cons r0
  obtain ⟨v2, vs2, d2, ds2, p2, q2, rfl, rfl, _, h2, r2⟩ := trodAll_cons r1
  obtain ⟨rfl, rfl, _⟩ := trodAll_nil r2
  obtain rfl : args = #[v0, v1, v2] := by cases args; simp_all
  obtain ⟨rfl, rfl⟩ := trodVars_none hV
  obtain ⟨cs0, x0, rfl, hx0⟩ := open_struct opens_SGraph Try.underlying62 (hval 0 62 v0 rfl rfl) h0
  obtain ⟨a0_0, c0_0, a1_0, c1_0, a2_0, c2_0, e0⟩ := shape_SGraph hx0
  obtain rfl : cs0 = #[.slice a0_0 x0.signals.length c0_0, .slice a1_0 x0.codes.length c1_0, .slice a2_0 x0.arcs.length c2_0] := by rw [← Array.toArray_toList (xs := cs0), e0]
  obtain ⟨x1, rfl, hx1⟩ := open_i64 Try.underlying3 (hval 1 3 v1 rfl rfl) h1
  obtain ⟨x2, rfl, hx2⟩ := open_i64 Try.underlying3 (hval 2 3 v2 rfl rfl) h2
  clear hA0 hval0
  refine (walk W a0_0 c0_0 a1_0 c1_0 a2_0 c2_0 x0 hx0 x1 hx1 x2 hx2).mono fun e W' ⟨he, hg⟩ => ?_
  subst he
  refine ⟨_, rfl, post_of_below (pa := p) (pv := []) hW' (fun _ _ _ => (trodAll_cons_mk (shut_bool Try.underlying4 _) trodAll_mk0)) (fun sp hsp => ?_) (fun sp _ => rfl) rfl hg (ok_one (by kernel_rfl) rfl (okWide_bool_mk Try.underlying4 _))⟩
  exact trodAll_below (by kernel_rfl) hg (of_decide_eq_true (by kernel_rfl)) hA1 (fun x hx => hlt x (List.mem_append_left _ hx)) (fun x hx => hsp x (List.mem_append_left _ hx))

theorem part9 : (Rows.fnExactIsExcitedRow.inPlace == Try.checked.prog.inPlace 8) = true := by kernel_rfl
theorem part10 : (Rows.fnExactIsExcitedRow.unfollowed == Try.checked.prog.unfollowed 8) = true := by kernel_rfl
theorem part11 : (Rows.fnExactIsExcitedRow.recurses == Try.checked.prog.recurses 8) = true := by kernel_rfl
theorem part12 : (Rows.fnExactIsExcitedRow.named == Try.checked.prog.varsNamed 8) = true := by kernel_rfl
theorem named : Try.checked.prog.funcNamed Rows.fnExactIsExcitedRow.func = some 8 := by kernel_rfl
theorem closed : joinedFacts Try.checked.prog 8 Try.f8 Rows.fnExactIsExcitedSpec Rows.fnExactIsExcitedRow = true := by
  unfold joinedFacts
  exact (and_tt (and_tt (and_tt (and_tt (and_tt (and_tt (and_tt (and_tt (and_tt (and_tt (and_tt (and_tt (and_tt (and_tt (and_tt (and_tt (and_tt (and_tt (and_tt (and_tt (and_tt (and_tt (and_tt (and_tt (and_tt (and_tt (and_tt (and_tt (and_tt (and_tt (and_tt (by kernel_rfl) glob1) glob2) (by kernel_rfl)) (by kernel_rfl)) (by kernel_rfl)) glob6) (by kernel_rfl)) glob8) part9) part10) part11) part12) (by kernel_rfl)) (by kernel_rfl)) (by kernel_rfl)) (by kernel_rfl)) (by kernel_rfl)) (by kernel_rfl)) (by kernel_rfl)) (by kernel_rfl)) (by kernel_rfl)) glob22) (by kernel_rfl)) glob24) glob25) glob26) glob27) (by kernel_rfl)) (by kernel_rfl)) (by kernel_rfl)) (by kernel_rfl))

theorem over : Rows.fnExactIsExcitedRow.holds Try.pinned (OpenSpec.ofChange Rows.fnExactIsExcitedSpec) :=
  OpenClaim.holds_of_wide 8 Try.f8 rfl rfl rfl rfl rfl rfl rfl ⟨rfl, rfl, rfl, rfl, rfl⟩ rfl rfl rfl rfl rfl named Try.func8 closed
    (of_decide_eq_true (by kernel_rfl)) (by unfold Func.isWrapper; first | (rw [if_pos (by decide +kernel)]; kernel_rfl) | (rw [if_neg (by decide +kernel)]; exact ⟨rfl, rfl⟩))
    (fun os started H enc _ => lifted os started H enc)

theorem proved : Rows.FnExactIsExcitedSaid :=
  over
#print axioms proved
end Go.Proofs.Ytidfmgahnmpcdaa.fnExactIsExcited
