/- IsValidNet, the reference's and the program's: both answer goodNet. -/
import Derived.Test.YtidfmgahnmpcdaaNetV
set_option linter.unusedSimpArgs false
set_option linter.unusedVariables false
namespace Go.Proofs.Ytidfmgahnmpcdaa
open Go.ChangeShapes Go.WideShapes Go.ChangeAt Go.RowKit

theorem l1Set2_c (w : World) (a : Option Addr) (c : Nat) (l : List Int) (m : Int) (h : (tSl tInt).R w l [.slice a l.length c]) :
    Calls Try.prog 156 #[.slice a l.length c, .int .i64 m] w fun e w' => e = .returned (.bool (risingL 0 m l)) ∧ Ext w w' := by
  go_enter Try.func156, Try.ntmps156
  go_wp2_with fail
  refine (l1Rising_c _ _ _ _ _ _ h).mono ?_
  rintro e w1 ⟨rfl, hx⟩
  go_wp2
  go_ret
  exact ⟨rfl, hx⟩

theorem cell_box (w : World) (cs : Array Value) (t : TypeId) (i : Nat) : (w.alloc (.cells cs t)).cell? ⟨w.heap.size, i, none⟩ = cs[i]? := by simp

def badTr (pl : Int) (x : Tr) : Bool := decide (x.pre.length = 0) || !risingL 0 (pl - 1) x.pre || !risingL 0 (pl - 1) x.post
def goodNet (n : NetD) : Bool := decide (1 ≤ n.places ∧ n.places ≤ 30) && decide (n.trs.length ≤ 24) && !n.trs.any (badTr n.places)

set_option maxHeartbeats 400000 in
theorem IsValidNet1_c (w : World) (a0 : Option Addr) (c0 : Nat) (a1 : Option Addr) (c1 : Nat) (x : Tr) (b : Nat) (pl : Int) (hc : w.cell? ⟨b, 0, none⟩ = some (.int .i64 pl)) (h1 : 1 ≤ pl) (h2 : pl ≤ 30)
    (h : tTr.R w x [.slice a0 x.pre.length c0, .slice a1 x.post.length c1]) :
    Calls Try.prog 125 #[.agg #[.slice a0 x.pre.length c0, .slice a1 x.post.length c1], .pointer (some ⟨b, 0, none⟩)] w fun e w' => e = .returned (.bool (badTr pl x)) ∧ Ext w w' := by
  obtain ⟨hp, hq⟩ := R_Tr.1 h
  have HP := Lib.hid hp
  have HQ := Lib.hid hq
  have hb := lt_of_cell hc
  have hn := R_len hp
  clear h hp hq
  have HB : Hid (badTr pl x = (decide (x.pre.length = 0) || !risingL 0 (pl - 1) x.pre || !risingL 0 (pl - 1) x.post)) := Lib.hid rfl
  have hE0 : Ext w (w.alloc (.cells #[.slice a0 x.pre.length c0, .slice a1 x.post.length c1] 103)) := (Ext.refl w).alloc _
  by_cases he : x.pre.length = 0
  · have HE := Lib.hid he
    have hz : ((x.pre.length : Int) == 0) = true := by rw [beq_iff_eq]; omega
    clear he
    go_enter Try.func125, Try.ntmps125
    go_wp2
    go_ret
    exact ⟨ret_bool (by rw [HB.out]; simp [HE.out]), hE0⟩
  · have hz : ((x.pre.length : Int) == 0) = false := by rw [beq_eq_false_iff_ne]; omega
    have HE := Lib.hid he
    clear he
    go_enter Try.func125, Try.ntmps125
    go_wp2_with fail
    refine (isIncreasing_c _ _ _ _ _ (HP.out.ext hE0) (by omega) (by omega)).mono ?_
    rintro e w1 ⟨rfl, hx⟩
    obtain ⟨hk, hf⟩ := hx.cells
    simp only [World.size_alloc] at hk hf
    cases hr : risingL 0 (pl - 1) x.pre
    · have HR := Lib.hid hr
      clear hr
      go_wp2
      go_ret
      exact ⟨ret_bool (by rw [HB.out, HR.out]; simp), hE0.trans hx⟩
    · have HR := Lib.hid hr
      clear hr
      have hb1 : b < w.heap.size + 1 := by omega
      go_wp2_with fail
      refine (isIncreasing_c _ _ _ _ _ (HQ.out.ext (hE0.trans hx)) (by omega) (by omega)).mono ?_
      rintro e w2 ⟨rfl, hx2⟩
      go_wp2
      go_ret
      exact ⟨ret_bool (by rw [HB.out, HR.out]; simp [HE.out]), (hE0.trans hx).trans hx2⟩

theorem plain_IsValidNet1 : Plainf Try.prog 125 := plainf_of Try.func125 (by kernel_rfl) (by kernel_rfl)

set_option maxHeartbeats 400000 in
theorem IsValidNet_c (w : World) (a : Option Addr) (c : Nat) (x : NetD) (h : tNetD.R w x [.int .i64 x.places, .slice a x.trs.length c]) :
    Calls Try.prog 67 #[.agg #[.int .i64 x.places, .slice a x.trs.length c]] w fun e w' => e = .returned (.bool (goodNet x)) ∧ Ext w w' := by
  obtain ⟨hp, hq⟩ := R_NetD.1 h
  have HQ := Lib.hid hq
  have hn := R_len hq
  clear h hp hq
  have HB : Hid (goodNet x = (decide (1 ≤ x.places ∧ x.places ≤ 30) && decide (x.trs.length ≤ 24) && !x.trs.any (badTr x.places))) := Lib.hid rfl
  have hE0 : Ext w (w.alloc (.cells #[.int .i64 x.places, .slice a x.trs.length c] 43)) := (Ext.refl w).alloc _
  by_cases h1 : 1 ≤ x.places ∧ x.places ≤ 30
  · have HD := Lib.hid (show decide (1 ≤ x.places ∧ x.places ≤ 30) = true by simp [h1])
    obtain ⟨h11, h12⟩ := h1
    by_cases h2 : x.trs.length ≤ 24
    · have HE := Lib.hid (show decide (x.trs.length ≤ 24) = true by simp [h2])
      go_enter Try.func67, Try.ntmps67
      go_wp2_with fail
      refine (within_c _ _ _ _).mono ?_
      rintro e w1 ⟨rfl, hx⟩
      rw [HD.out]
      obtain ⟨hk, hf⟩ := hx.cells
      simp only [World.size_alloc] at hk hf
      have hcb : w1.cell? ⟨w.heap.size, 0, none⟩ = some (.int .i64 x.places) := by rw [hk _ _ (by omega)]; exact cell_box _ _ _ _
      go_wp2_with fail
      refine (ContainsFunc_Tr_c w1 a c x.trs (HQ.out.ext (hE0.trans hx)) 125 #[.pointer (some ⟨w.heap.size, 0, none⟩)] (badTr x.places) plain_IsValidNet1 ?_).mono ?_
      · intro k hk w' a0 c0 a1 c1 hw' hR
        have := IsValidNet1_c w' a0 c0 a1 c1 (nth x.trs k) w.heap.size x.places (by rw [hw'.cell (lt_of_cell hcb)]; exact hcb) h11 h12 hR
        simpa using this
      rintro e w2 ⟨rfl, hx2⟩
      go_wp2
      go_ret
      exact ⟨ret_bool (by rw [HB.out, HD.out, HE.out]; simp), (hE0.trans hx).trans hx2⟩
    · have HE := Lib.hid (show decide (x.trs.length ≤ 24) = false by simp; omega)
      go_enter Try.func67, Try.ntmps67
      go_wp2_with fail
      refine (within_c _ _ _ _).mono ?_
      rintro e w1 ⟨rfl, hx⟩
      rw [HD.out]
      obtain ⟨hk, hf⟩ := hx.cells
      simp only [World.size_alloc] at hk hf
      go_wp2
      go_ret
      exact ⟨ret_bool (by rw [HB.out, HE.out]; simp), hE0.trans hx⟩
  · have HD := Lib.hid (show decide (1 ≤ x.places ∧ x.places ≤ 30) = false by simp only [decide_eq_false_iff_not]; exact h1)
    clear h1
    go_enter Try.func67, Try.ntmps67
    go_wp2_with fail
    refine (within_c _ _ _ _).mono ?_
    rintro e w1 ⟨rfl, hx⟩
    rw [HD.out]
    go_wp2
    go_ret
    exact ⟨ret_bool (by rw [HB.out, HD.out]; simp), hE0.trans hx⟩
end Go.Proofs.Ytidfmgahnmpcdaa
