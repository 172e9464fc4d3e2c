/- The law FnExactIsValidNet returns true, for every input. -/
import Derived.Test.YtaeepdgnaoobnaaNetX
import Derived.Test.YtaeepdgnaoobnaaRegion
import Derived.Test.YtaeepdgnaoobnaaOpens
namespace Go.Proofs.Ytaeepdgnaoobnaa.fnExactIsValidNet
open Go.ChangeShapes Go.WideShapes Go.ChangeAt Go.RowKit

set_option maxHeartbeats 800000 in
theorem walk (w : World) (a : Option Addr) (c : Nat) (x : NetD) (h : tNetD.R w x [.int .i64 x.places, .slice a x.trs.length c]) :
    Calls Try.prog 4 #[.agg #[.int .i64 x.places, .slice a x.trs.length c]] w fun e w' => e = .returned (.bool true) ∧ Ext w w' := by
  have H := Lib.hid h
  clear h
  have hE0 : Ext w (w.alloc (.cells #[.int .i64 x.places, .slice a x.trs.length c] 25)) := (Ext.refl w).alloc _
  go_enter Try.func4, Try.ntmps4
  go_wp2_with fail
  refine (szNet_c _ _ _ _ _ (H.out.ext hE0) (by omega) (by omega)).mono ?_
  rintro e w1 ⟨rfl, hx1⟩
  have hE1 := hE0.trans hx1
  obtain ⟨hk1, hf1⟩ := hx1.cells
  simp only [World.size_alloc] at hk1 hf1
  by_cases hz : (1048576 : Int) < szNetD x
  · rw [lessen_neg hz]
    go_wp2
    go_ret
    exact ⟨rfl, hE1⟩
  · rw [lessen_pos (by omega)]
    have hz' : szNetD x ≤ 1048576 := by omega
    go_wp2_with fail
    refine (toNet_c _ _ _ _ (H.out.ext hE1) hz').mono ?_
    rintro e w2 ⟨a2, c2, rfl, hF2, hx2⟩
    have hE2 := hE1.trans hx2
    have HR2 := Lib.hid hF2.R
    go_wp2_with fail
    refine (specIsValidNet_c _ _ _ _ HR2.out).mono ?_
    rintro e w3 ⟨rfl, hx3⟩
    have hE3 := hE2.trans hx3
    obtain ⟨hk3, hf3⟩ := ((hx1.trans hx2).trans hx3).cells
    simp only [World.size_alloc] at hk3 hf3
    go_wp2_with fail
    refine (toNet_c _ _ _ _ (H.out.ext hE3) hz').mono ?_
    rintro e w4 ⟨a4, c4, rfl, hF4, hx4⟩
    have hE4 := hE3.trans hx4
    have HR4 := Lib.hid hF4.R
    clear hF2 hF4
    go_wp2_with fail
    refine (IsValidNet_c _ _ _ _ (HR4.out.ext ((Ext.refl _).alloc _))).mono ?_
    rintro e w5 ⟨rfl, hx5⟩
    have hE5 := (hE4.alloc (.cells #[.int .i64 x.places, .slice a4 x.trs.length c4] 30)).trans hx5
    have hb0 : w5.cell? ⟨w4.heap.size, 0, none⟩ = some (.int .i64 x.places) := by rw [hx5.cell (by simp)]; exact cell_box _ _ _ _
    have hb1 : w5.cell? ⟨w4.heap.size, 1, none⟩ = some (.slice a4 x.trs.length c4) := by rw [hx5.cell (by simp)]; exact cell_box _ _ _ _
    have hX := ((hx1.trans hx2).trans hx3).trans ((hx4.alloc (.cells #[.int .i64 x.places, .slice a4 x.trs.length c4] 30)).trans hx5)
    have ha0 : w5.cell? ⟨w.heap.size, 0, none⟩ = some (.int .i64 x.places) := by rw [hX.cell (by simp)]; exact cell_box _ _ _ _
    have ha1 : w5.cell? ⟨w.heap.size, 1, none⟩ = some (.slice a x.trs.length c) := by rw [hX.cell (by simp)]; exact cell_box _ _ _ _
    have HX5 := Lib.hid (((Ext.refl w4).alloc (.cells #[.int .i64 x.places, .slice a4 x.trs.length c4] 30)).trans hx5)
    go_wp2_with fail
    refine wp_region_facts (fun i v w => match i with
      | 0 => v = .agg #[.int .i64 x.places, .slice a4 x.trs.length c4]
      | 1 => v = .agg #[.int .i64 x.places, .slice a x.trs.length c]
      | 2 => ∃ a' c', v = .agg #[.int .i64 x.places, .slice a' x.trs.length c'] ∧ tNetD.R w x [.int .i64 x.places, .slice a' x.trs.length c']
      | 3 => v = .bool true
      | _ => v = .bool false) (by kernel_rfl) (by kernel_rfl) ?_ ?_ ?_
    · intro i v v1 v2 hi hv he
      match i, hv with
      | 0, hv => exact hv
      | 1, hv => exact hv
      | 2, ⟨a', c', h1, h2⟩ => exact ⟨a', c', h1, h2.ext he⟩
      | 3, hv => exact hv
      | _ + 4, hv => exact hv
    · intro i o hi a' w' hx ho hd
      have c0 : w'.cell? ⟨w4.heap.size, 0, none⟩ = some (.int .i64 x.places) := by rw [hx.cell (lt_of_cell hb0)]; exact hb0
      have c1 : w'.cell? ⟨w4.heap.size, 1, none⟩ = some (.slice a4 x.trs.length c4) := by rw [hx.cell (lt_of_cell hb1)]; exact hb1
      have d0 : w'.cell? ⟨w.heap.size, 0, none⟩ = some (.int .i64 x.places) := by rw [hx.cell (lt_of_cell ha0)]; exact ha0
      have d1 : w'.cell? ⟨w.heap.size, 1, none⟩ = some (.slice a x.trs.length c) := by rw [hx.cell (lt_of_cell ha1)]; exact ha1
      match i, hi with
      | 0, hi =>
        cases hi
        have e5 : a'.tmps.getD 5 undef = .pointer (some ⟨w4.heap.size, 0, none⟩) := ho 5 (by decide)
        refine wpv_value (v := .agg #[.int .i64 x.places, .slice a4 x.trs.length c4]) ?_ rfl
        simp [go_sem, Act.eval, e5, c0, c1]
      | 1, hi =>
        cases hi
        have e1 : a'.tmps.getD 1 undef = .pointer (some ⟨w.heap.size, 0, none⟩) := ho 1 (by decide)
        refine wpv_value (v := .agg #[.int .i64 x.places, .slice a x.trs.length c]) ?_ rfl
        simp [go_sem, Act.eval, e1, d0, d1]
      | 2, hi =>
        cases hi
        have e23 : a'.tmps.getD 23 undef = .agg #[.int .i64 x.places, .slice a x.trs.length c] := hd ⟨1, .data⟩ (by simp) rfl _ 23 rfl rfl
        refine wpv_enter (f := 11) (args := #[.agg #[.int .i64 x.places, .slice a x.trs.length c]]) (by simp [go_sem, Act.eval, e23]) ((toNet_c _ _ _ _ (H.out.ext (hE5.trans hx)) hz').mono ?_)
        rintro e w6 ⟨a6, c6, rfl, hF6, hx6⟩
        exact ⟨_, rfl, hx6, a6, c6, rfl, hF6.R⟩
      | 3, hi =>
        cases hi
        have e22 : a'.tmps.getD 22 undef = .agg #[.int .i64 x.places, .slice a4 x.trs.length c4] := hd ⟨0, .data⟩ (by simp) rfl _ 22 rfl rfl
        obtain ⟨a6, c6, e24, hR6⟩ : ∃ p q, a'.tmps.getD 24 undef = .agg #[.int .i64 x.places, .slice p x.trs.length q] ∧ tNetD.R w' x [.int .i64 x.places, .slice p x.trs.length q] := hd ⟨2, .data⟩ (by simp) rfl _ 24 rfl rfl
        refine wpv_enter (f := 13) (args := #[.agg #[.int .i64 x.places, .slice a4 x.trs.length c4], .agg #[.int .i64 x.places, .slice a6 x.trs.length c6]]) (by simp [go_sem, Act.eval, e22, e24]) ((eqNet_c _ _ _ _ _ _ (HR4.out.ext (HX5.out.trans hx)) hR6).mono ?_)
        rintro e w6 ⟨rfl, hx6⟩
        exact ⟨_, rfl, hx6, rfl⟩
      | 4, hi =>
        cases hi
        have e25 : a'.tmps.getD 25 undef = .bool true := hd ⟨3, .data⟩ (by simp) rfl _ 25 rfl rfl
        exact wpv_value (v := .bool false) (by simp [go_sem, Act.eval, e25]) rfl
    · intro vs w' hx hv
      have e4 : vs 4 = .bool false := hv 4 (by decide)
      simp only [fillF, e4]
      go_wp2
      go_ret
      exact ⟨rfl, hE5.trans hx⟩

theorem own : ownKnob Try.prog.godebug = none := by kernel_rfl

set_option maxRecDepth 100000 in
theorem lifted (os : Os) (started : os.Started) (H : Type) (enc : TypeId × Value → H) :
    ReturnsInHanded {} Try.checked os 4 .any (Rows.fnExactIsValidNetSpec.pre6 enc Try.prog Try.f4 Rows.fnExactIsValidNetRow.domain false) (Rows.fnExactIsValidNetSpec.post enc Try.prog Try.f4 false true false false) := by
  refine returnsInHanded_of_change (C := Try.checked) own started (by kernel_rfl) Try.func4
    (ChangeSpec.witness6 (enc := enc) (C := Try.checked) false ⟨#[], #[.agg #[.int .i64 0, .slice none 0 0]], []⟩ 8 (by kernel_rfl) (by kernel_rfl) (by kernel_rfl) (by kernel_rfl)) ?_
  intro W base args ds gs before hval0 hW hcnd _
  have hval : ∀ (j : Nat) t v, Try.f4.params[j]? = some t → args[j]? = some v → Value.okWide Try.prog W .any base t v := hval0
  have hW' := hW
  have hlt := fun p hp => DataW.Whole.lt hW p hp
  obtain ⟨p, q, hA0, hV, rfl, hfz, hnd⟩ := hW
  have hA : DataW.TrodAll enc Try.prog W 0 (fun _ => true) true Try.f4.params.toList args.toList ds p := hA0
  have hA1 := hA
  rw [Try.params4] at hA hval
  obtain ⟨v0, vs0, d0, ds0, p0, q0, hargs, rfl, _, h0, r0⟩ := trodAll_cons hA
  obtain ⟨rfl, rfl, _⟩ := trodAll_nil r0
  obtain rfl : args = #[v0] := by cases args; simp_all
  obtain ⟨rfl, rfl⟩ := trodVars_none hV
  obtain ⟨cs0, x0, rfl, hx0⟩ := open_struct opens_NetD Try.underlying25 (hval 0 25 v0 rfl rfl) h0
  obtain ⟨a1, c1, e0⟩ := shape_NetD hx0
  obtain rfl : cs0 = #[.int .i64 x0.places, .slice a1 x0.trs.length c1] := by rw [← Array.toArray_toList (xs := cs0), e0]
  clear hA0 hval0
  refine (walk W a1 c1 x0 hx0).mono fun e W' ⟨he, hg⟩ => ?_
  subst he
  refine ⟨_, rfl, post_of_below (pa := p) (pv := []) hW' (fun _ _ _ => (trodAll_cons_mk (shut_bool Try.underlying4 _) trodAll_mk0)) (fun sp hsp => ?_) (fun sp _ => rfl) rfl hg (ok_one (by kernel_rfl) rfl (okWide_bool_mk Try.underlying4 _))⟩
  exact trodAll_below (by kernel_rfl) hg (of_decide_eq_true (by kernel_rfl)) hA1 (fun x hx => hlt x (List.mem_append_left _ hx)) (fun x hx => hsp x (List.mem_append_left _ hx))

theorem over : Rows.fnExactIsValidNetRow.holds Try.pinned (OpenSpec.ofChange Rows.fnExactIsValidNetSpec) :=
  OpenClaim.holds_of_wide 4 Try.f4 rfl rfl rfl rfl rfl rfl rfl ⟨rfl, rfl, rfl, rfl, rfl⟩ rfl rfl rfl rfl rfl (by kernel_rfl) Try.func4 (by kernel_rfl)
    (of_decide_eq_true (by kernel_rfl)) (by unfold Func.isWrapper; first | (rw [if_pos (by decide +kernel)]; kernel_rfl) | (rw [if_neg (by decide +kernel)]; exact ⟨rfl, rfl⟩))
    (fun os started H enc _ => lifted os started H enc)

theorem proved : Rows.FnExactIsValidNetSaid :=
  over
#print axioms proved
end Go.Proofs.Ytaeepdgnaoobnaa.fnExactIsValidNet
