/- The reference's l1Good answers goodNet. -/
import Derived.Test.YtidfmgahnmpcdaaNetW
set_option linter.unusedSimpArgs false
set_option linter.unusedVariables false
namespace Go.Proofs.Ytidfmgahnmpcdaa
open Go.ChangeShapes Go.WideShapes Go.ChangeAt Go.RowKit

theorem any_drop {α : Type} [Inhabited α] (p : α → Bool) {l : List α} {k : Nat} (h : k < l.length) : (l.drop k).any p = (p (nth l k) || (l.drop (k + 1)).any p) := by
  rw [drop_nth h, List.any_cons]

set_option maxHeartbeats 800000 in
theorem l1Good_c (w : World) (a : Option Addr) (c : Nat) (x : NetD) (h : tNetD.R w x [.int .i64 x.places, .slice a x.trs.length c]) :
    Calls Try.prog 104 #[.agg #[.int .i64 x.places, .slice a x.trs.length c]] w fun e w' => e = .returned (.bool (goodNet x)) ∧ Ext w w' := by
  obtain ⟨hp, hq⟩ := R_NetD.1 h
  have hn := R_len hq
  obtain ⟨_, _, _, _, hs⟩ := R_sl.1 hq
  clear h hp hq
  have HB : Hid (goodNet x = (decide (1 ≤ x.places ∧ x.places ≤ 30) && decide (x.trs.length ≤ 24) && !x.trs.any (badTr x.places))) := Lib.hid rfl
  have hE0 : Ext w (w.alloc (.cells #[.int .i64 x.places, .slice a x.trs.length c] 43)) := (Ext.refl w).alloc _
  have hcb := cell_box w #[.int .i64 x.places, .slice a x.trs.length c] 43 0
  by_cases h1 : 1 ≤ x.places ∧ x.places ≤ 30
  · have HD := Lib.hid (show decide (1 ≤ x.places ∧ x.places ≤ 30) = true by simp [h1])
    obtain ⟨h11, h12⟩ := h1
    go_enter Try.func104, Try.ntmps104
    go_wp2
    go_loopw [8] (fun i wr => ∃ k : Nat, k ≤ x.trs.length ∧ i = .int .i64 k ∧ x.trs.any (badTr x.places) = (x.trs.drop k).any (badTr x.places) ∧ Ext (w.alloc (.cells #[.int .i64 x.places, .slice a x.trs.length c] 43)) wr) (fun i _ => x.trs.length - (intOf i).toNat)
    case atStart => exact ⟨0, Nat.zero_le _, rfl, rfl, Ext.refl _⟩
    case round =>
      obtain ⟨k, hk, rfl, hr, hb⟩ := hrel
      have HR := Lib.hid hr
      clear hr
      have hcw : wr.cell? ⟨w.heap.size, 0, none⟩ = some (.int .i64 x.places) := by rw [hb.cell (by simp)]; exact hcb
      have hws : w.heap.size < wr.heap.size := by have := hb.size; simp only [World.size_alloc] at this; omega
      by_cases hlt : k < x.trs.length
      · obtain ⟨b, o, rfl, hbs, hel⟩ := hs.get (by omega)
        obtain ⟨a0, c0, a1, c1, hc0, hc1, hR⟩ := at_Tr ((hel k hlt).ext (hE0.trans hb) hbs)
        simp only [show tTr.n = 2 from rfl] at hc0 hc1
        obtain ⟨hR0, hR1⟩ := R_Tr.1 hR
        have H0 := Lib.hid hR0
        have H1 := Lib.hid hR1
        have hn0 := R_len hR0
        have HT : Hid (badTr x.places (nth x.trs k) = (decide ((nth x.trs k).pre.length = 0) || !risingL 0 (x.places - 1) (nth x.trs k).pre || !risingL 0 (x.places - 1) (nth x.trs k).post)) := Lib.hid rfl
        have HA := Lib.hid (any_drop (badTr x.places) hlt)
        clear hel hR hR0 hR1 hcb
        by_cases he : (nth x.trs k).pre.length = 0
        · have HE := Lib.hid he
          have hz : (((nth x.trs k).pre.length : Int) == 0) = true := by rw [beq_iff_eq]; omega
          clear he
          go_wp2
          go_ret
          exact ⟨ret_bool (by rw [HB.out, HR.out, HA.out, HT.out]; simp [HE.out]), (hE0.trans hb).alloc _⟩
        · have hz : (((nth x.trs k).pre.length : Int) == 0) = false := by rw [beq_eq_false_iff_ne]; omega
          have HE := Lib.hid he
          clear he
          go_wp2_with fail
          refine (l1Set2_c _ _ _ _ _ (H0.out.ext ((Ext.refl _).alloc _))).mono ?_
          rintro e w1 ⟨rfl, hx⟩
          obtain ⟨hk1, hf1⟩ := hx.cells
          simp only [World.size_alloc] at hk1 hf1
          have hws1 : w.heap.size < wr.heap.size + 1 := by omega
          have hE1 : Ext wr w1 := ((Ext.refl _).alloc _).trans hx
          generalize hr1 : risingL 0 (x.places - 1) (nth x.trs k).pre = r1
          cases r1
          all_goals have HR1 := Lib.hid hr1
          all_goals clear hr1
          · go_wp2
            go_ret
            exact ⟨ret_bool (by rw [HB.out, HR.out, HA.out, HT.out, HR1.out]; simp), hE0.trans (hb.trans hE1)⟩
          · go_wp2_with fail
            refine (l1Set2_c _ _ _ _ _ (H1.out.ext hE1)).mono ?_
            rintro e w2 ⟨rfl, hx2⟩
            have hE2 := hE1.trans hx2
            generalize hr2 : risingL 0 (x.places - 1) (nth x.trs k).post = r2
            cases r2
            all_goals have HR2 := Lib.hid hr2
            all_goals clear hr2
            · go_wp2
              go_ret
              exact ⟨ret_bool (by rw [HB.out, HR.out, HA.out, HT.out, HR2.out]; simp), hE0.trans (hb.trans hE2)⟩
            · go_wp2
              go_roundw
              case rel => exact ⟨k + 1, by omega, by go_num, by rw [HR.out, HA.out, HT.out, HR1.out, HR2.out]; simp [HE.out], hb.trans hE2⟩
              case measure => simp [intOf]; omega
      · obtain rfl : k = x.trs.length := by omega
        go_wp2_with fail
        refine (l1In_c _ _ _ _).mono ?_
        rintro e w2 ⟨rfl, hx⟩
        rw [HD.out]
        obtain ⟨hk1, hf1⟩ := hx.cells
        have hcb1 : wr.cell? ⟨w.heap.size, 1, none⟩ = some (.slice a x.trs.length c) := by rw [hb.cell (by simp)]; exact cell_box _ _ _ _
        go_wp2
        go_ret
        exact ⟨ret_bool (by rw [HB.out, HD.out, HR.out, drop_len _ (Nat.le_refl _)]; simp; omega), (hE0.trans hb).trans hx⟩
  · have HD := Lib.hid (show decide (1 ≤ x.places ∧ x.places ≤ 30) = false by simp only [decide_eq_false_iff_not]; exact h1)
    clear h1
    go_enter Try.func104, Try.ntmps104
    go_wp2
    go_loopw [8] (fun i wr => ∃ k : Nat, k ≤ x.trs.length ∧ i = .int .i64 k ∧ Ext (w.alloc (.cells #[.int .i64 x.places, .slice a x.trs.length c] 43)) wr) (fun i _ => x.trs.length - (intOf i).toNat)
    case atStart => exact ⟨0, Nat.zero_le _, rfl, Ext.refl _⟩
    case round =>
      obtain ⟨k, hk, rfl, hb⟩ := hrel
      have hcw : wr.cell? ⟨w.heap.size, 0, none⟩ = some (.int .i64 x.places) := by rw [hb.cell (by simp)]; exact hcb
      have hws : w.heap.size < wr.heap.size := by have := hb.size; simp only [World.size_alloc] at this; omega
      by_cases hlt : k < x.trs.length
      · obtain ⟨b, o, rfl, hbs, hel⟩ := hs.get (by omega)
        obtain ⟨a0, c0, a1, c1, hc0, hc1, hR⟩ := at_Tr ((hel k hlt).ext (hE0.trans hb) hbs)
        simp only [show tTr.n = 2 from rfl] at hc0 hc1
        obtain ⟨hR0, hR1⟩ := R_Tr.1 hR
        have H0 := Lib.hid hR0
        have H1 := Lib.hid hR1
        have hn0 := R_len hR0
        clear hel hR hR0 hR1 hcb
        by_cases he : (nth x.trs k).pre.length = 0
        · have hz : (((nth x.trs k).pre.length : Int) == 0) = true := by rw [beq_iff_eq]; omega
          clear he
          go_wp2
          go_ret
          exact ⟨ret_bool (by rw [HB.out, HD.out]; simp), (hE0.trans hb).alloc _⟩
        · have hz : (((nth x.trs k).pre.length : Int) == 0) = false := by rw [beq_eq_false_iff_ne]; omega
          clear he
          go_wp2_with fail
          refine (l1Set2_c _ _ _ _ _ (H0.out.ext ((Ext.refl _).alloc _))).mono ?_
          rintro e w1 ⟨rfl, hx⟩
          obtain ⟨hk1, hf1⟩ := hx.cells
          simp only [World.size_alloc] at hk1 hf1
          have hws1 : w.heap.size < wr.heap.size + 1 := by omega
          have hE1 : Ext wr w1 := ((Ext.refl _).alloc _).trans hx
          generalize hr1 : risingL 0 _ (nth x.trs k).pre = r1
          cases r1
          all_goals have HR1 := Lib.hid hr1
          all_goals clear hr1
          · go_wp2
            go_ret
            exact ⟨ret_bool (by rw [HB.out, HD.out]; simp), hE0.trans (hb.trans hE1)⟩
          · go_wp2_with fail
            refine (l1Set2_c _ _ _ _ _ (H1.out.ext hE1)).mono ?_
            rintro e w2 ⟨rfl, hx2⟩
            have hE2 := hE1.trans hx2
            generalize hr2 : risingL 0 _ (nth x.trs k).post = r2
            cases r2
            all_goals have HR2 := Lib.hid hr2
            all_goals clear hr2
            · go_wp2
              go_ret
              exact ⟨ret_bool (by rw [HB.out, HD.out]; simp), hE0.trans (hb.trans hE2)⟩
            · go_wp2
              go_roundw
              case rel => exact ⟨k + 1, by omega, by go_num, hb.trans hE2⟩
              case measure => simp [intOf]; omega
      · obtain rfl : k = x.trs.length := by omega
        go_wp2_with fail
        refine (l1In_c _ _ _ _).mono ?_
        rintro e w2 ⟨rfl, hx⟩
        rw [HD.out]
        go_wp2
        go_ret
        exact ⟨ret_bool (by rw [HB.out, HD.out]; simp), (hE0.trans hb).trans hx⟩

end Go.Proofs.Ytidfmgahnmpcdaa
