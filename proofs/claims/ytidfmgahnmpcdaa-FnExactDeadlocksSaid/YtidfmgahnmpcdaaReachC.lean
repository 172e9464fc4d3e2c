/- The reference's l4Good answers goodReach. -/
import Derived.Test.YtidfmgahnmpcdaaReachB
set_option linter.unusedSimpArgs false
set_option linter.unusedVariables false
namespace Go.Proofs.Ytidfmgahnmpcdaa
open Go.ChangeShapes Go.WideShapes Go.ChangeAt Go.RowKit

theorem SlR.take {α : Type} [Inhabited α] {T : Ty α} {w : World} {a : Option Addr} {l : List α} (h : SlR T w a l) (k : Nat) : SlR T w a (l.take k) := by
  obtain ⟨bs, h | ⟨b, o, bss, ha, hb, hbs, hl, he⟩⟩ := h
  · obtain ⟨rfl, _⟩ := h; exact ⟨[], Or.inl ⟨by simp, rfl⟩⟩
  · refine ⟨b :: (bss.take k).flatten, Or.inr ⟨b, o, bss.take k, ha, hb, rfl, by simp [hl], fun i hi => ?_⟩⟩
    simp only [List.length_take] at hi
    have e1 : nth (l.take k) i = nth l i := by simp only [nth, List.getD_eq_getElem?_getD]; rw [List.getElem?_take, if_pos (by omega)]
    have e2 : nth (bss.take k) i = nth bss i := by simp only [nth, List.getD_eq_getElem?_getD]; rw [List.getElem?_take, if_pos (by omega)]
    rw [e1, e2]
    exact he i (by omega)
theorem mem_take_nth {l : List ByteArray} {k : Nat} {s : ByteArray} : (0 ≤ strIx (l.take k) s) ↔ s ∈ l.take k := by
  have := findIx_any (fun x => decide (x = s)) (l.take k)
  unfold strIx
  have h2 : (l.take k).any (fun x => decide (x = s)) = true ↔ s ∈ l.take k := by
    rw [List.any_eq_true]; exact ⟨fun ⟨x, hx, e⟩ => by simp at e; rw [← e]; exact hx, fun h => ⟨s, h, by simp⟩⟩
  rw [← h2, ← this]; simp
theorem nodup_iff_take {l : List ByteArray} : l.Nodup ↔ ∀ k, k < l.length → nth l k ∉ l.take k := by
  unfold List.Nodup
  rw [List.pairwise_iff_getElem]
  constructor
  · intro h k hk hm
    obtain ⟨j, hj, e⟩ := List.getElem_of_mem hm
    simp only [List.length_take] at hj
    rw [nth_get hk, List.getElem_take] at e
    exact h j k (by omega) hk (by omega) e
  · intro h i j hi hj hij e
    apply h j hj
    rw [nth_get hj, ← e, List.mem_take_iff_getElem]
    exact ⟨i, by omega, rfl⟩

set_option maxHeartbeats 1600000 in
theorem l4Good_c (w : World) (a0 : Option Addr) (c0 : Nat) (a1 : Option Addr) (c1 : Nat) (x : RGraph) (h : tRGraph.R w x [.slice a0 x.marks.length c0, .slice a1 x.moves.length c1]) :
    Calls Try.prog 53 #[.agg #[.slice a0 x.marks.length c0, .slice a1 x.moves.length c1]] w fun e w' => e = .returned (.bool (goodReach x)) ∧ Ext w w' := by
  obtain ⟨h0, h1⟩ := R_RGraph.1 h
  have hn0 := R_len h0
  have hn1 := R_len h1
  obtain ⟨_, hcap, hcap2, hnone, hs0⟩ := R_sl.1 h0
  obtain ⟨_, _, _, _, hs1⟩ := R_sl.1 h1
  clear h h0 h1
  have HB := Lib.hid (goodReach_def x)
  have hE0 : Ext w (w.alloc (.cells #[.slice a0 x.marks.length c0, .slice a1 x.moves.length c1] 31)) := (Ext.refl w).alloc _
  have hb0 : (w.alloc (.cells #[.slice a0 x.marks.length c0, .slice a1 x.moves.length c1] 31)).cell? ⟨w.heap.size, 0, none⟩ = some (.slice a0 x.marks.length c0) := World.cell?_alloc_new _ _ _ _
  have hb1 : (w.alloc (.cells #[.slice a0 x.marks.length c0, .slice a1 x.moves.length c1] 31)).cell? ⟨w.heap.size, 1, none⟩ = some (.slice a1 x.moves.length c1) := World.cell?_alloc_new _ _ _ _
  go_enter Try.func53, Try.ntmps53
  go_wp2_with fail
  refine (l1In_c _ _ _ _).mono ?_
  rintro e w1 ⟨rfl, hx1⟩
  have hu0 : w1.cell? ⟨w.heap.size, 0, none⟩ = some (.slice a0 x.marks.length c0) := by rw [hx1.cell (lt_of_cell hb0)]; exact hb0
  have hu1 : w1.cell? ⟨w.heap.size, 1, none⟩ = some (.slice a1 x.moves.length c1) := by rw [hx1.cell (lt_of_cell hb1)]; exact hb1
  have HE1 := Lib.hid (hE0.trans hx1)
  have hws := lt_of_cell hu0
  clear hb0 hb1 hx1 hE0
  generalize hq : decide (1 ≤ (x.marks.length : Int) ∧ (x.marks.length : Int) ≤ 300) = q
  have HQ := Lib.hid hq
  clear hq
  cases q
  · go_wp2
    go_ret
    exact ⟨ret_bool (by rw [HB.out, HQ.out]; rfl), HE1.out⟩
  · by_cases hlen : x.moves.length ≤ 4000
    · have HL := Lib.hid (show decide (x.moves.length ≤ 4000) = true by simp [hlen])
      go_wp2
      go_loopw [21] (fun i wr => ∃ k : Nat, k ≤ x.marks.length ∧ i = .int .i64 k ∧ (∀ j, j < k → nth x.marks j ∉ x.marks.take j) ∧ Ext w1 wr) (fun i _ => x.marks.length - (intOf i).toNat)
      case atStart => exact ⟨0, Nat.zero_le _, rfl, by omega, Ext.refl _⟩
      case round =>
        obtain ⟨k, hk, rfl, hj, hb⟩ := hrel
        have HJ := Lib.hid hj
        clear hj
        have hv0 : wr.cell? ⟨w.heap.size, 0, none⟩ = some (.slice a0 x.marks.length c0) := by rw [hb.cell hws]; exact hu0
        have hv1 : wr.cell? ⟨w.heap.size, 1, none⟩ = some (.slice a1 x.moves.length c1) := by rw [hb.cell hws]; exact hu1
        by_cases hlt : k < x.marks.length
        · obtain ⟨b, o, rfl, hbs, hel⟩ := hs0.get (by omega)
          have hc := (at_str ((hel k hlt).ext (HE1.out.trans hb) hbs)).1
          simp only [tStr, Nat.mul_one] at hc
          have HT : Hid ((tSl tStr).R wr (x.marks.take k) [.slice (some ⟨b, o, none⟩) (x.marks.take k).length c0]) :=
            Lib.hid (R_sl.2 ⟨rfl, by simp; omega, hcap2, hnone, (hs0.ext (HE1.out.trans hb)).take k⟩)
          have HLt : Hid ((x.marks.take k).length = k) := Lib.hid (by simp; omega)
          have HM := Lib.hid (mem_take_nth (l := x.marks) (k := k) (s := nth x.marks k))
          clear hel hnone hcap2
          have hcall := l4Find_c wr _ _ (x.marks.take k) (nth x.marks k) HT.out
          rw [HLt.out] at hcall
          have HC := Lib.hid hcall
          clear hcall
          go_wp2_with fail
          refine HC.out.mono ?_
          rintro e w2 ⟨rfl, hx2⟩
          have HX2 := Lib.hid (hb.trans hx2)
          generalize strIx (x.marks.take k) (nth x.marks k) = z at *
          by_cases hz : 0 ≤ z
          · have HD : Hid (decide x.marks.Nodup = false) := Lib.hid (by rw [decide_eq_false_iff_not, nodup_iff_take]; exact fun h => h k hlt (HM.out.1 hz))
            go_wp2
            go_ret
            exact ⟨ret_bool (by rw [HB.out, HD.out]; simp), HE1.out.trans HX2.out⟩
          · have HD := Lib.hid (fun h => hz (HM.out.2 h))
            go_wp2
            go_roundw
            case rel => exact ⟨k + 1, by omega, by go_num, fun j hj => by by_cases e : j = k; (rw [e]; exact HD.out); exact HJ.out j (by omega), HX2.out⟩
            case measure => simp [intOf]; omega
        · obtain rfl : k = x.marks.length := by omega
          have HN : Hid (decide x.marks.Nodup = true) := Lib.hid (by rw [decide_eq_true_eq, nodup_iff_take]; exact HJ.out)
          obtain ⟨wo, rfl⟩ : ∃ wo : World, wo = wr := ⟨_, rfl⟩
          have HE2 := Lib.hid (HE1.out.trans hb)
          have hwt := lt_of_cell hv0
          clear hb hu0 hu1
          go_wp2
          go_loopw [37] (fun i wr => ∃ k : Nat, k ≤ x.moves.length ∧ i = .int .i64 k ∧ x.moves.all (goodMv x.marks.length) = (x.moves.drop k).all (goodMv x.marks.length) ∧ Ext wo wr) (fun i _ => x.moves.length - (intOf i).toNat)
          case atStart => exact ⟨0, Nat.zero_le _, rfl, rfl, Ext.refl _⟩
          case round =>
            obtain ⟨k, hk, rfl, hr, hb⟩ := hrel
            have HR := Lib.hid hr
            clear hr
            have hy0 : wr.cell? ⟨w.heap.size, 0, none⟩ = some (.slice a0 x.marks.length c0) := by rw [hb.cell hwt]; exact hv0
            by_cases hlt : k < x.moves.length
            · obtain ⟨b, o, rfl, hbs, hel⟩ := hs1.get (by omega)
              obtain ⟨_, hc0, hc1, hc2, hR⟩ := at_Mv ((hel k hlt).ext (HE2.out.trans hb) hbs)
              simp only [show tMv.n = 3 from rfl] at hc0 hc1 hc2
              have hwu := lt_of_cell hy0
              have hwu1 : w.heap.size < wr.heap.size + 1 := by omega
              clear hel hR hv0 hv1
              have HA := Lib.hid (all_drop (goodMv x.marks.length) hlt)
              have HG := Lib.hid (goodMv_def x.marks.length (nth x.moves k))
              go_wp2_with fail
              refine (l1In_c _ _ _ _).mono ?_
              rintro e w3 ⟨rfl, hx3⟩
              obtain ⟨hk3, hf3⟩ := hx3.cells
              simp only [World.size_alloc] at hk3 hf3
              have HE3 := Lib.hid (hb.trans (((Ext.refl _).alloc _).trans hx3))
              generalize hq : decide (0 ≤ (nth x.moves k).src ∧ (nth x.moves k).src ≤ (x.marks.length : Int) - 1) = q
              have HQ1 := Lib.hid hq
              clear hq
              cases q
              · go_wp2
                go_ret
                exact ⟨ret_bool (by rw [HB.out, HR.out, HA.out, HG.out, HQ1.out]; simp), HE2.out.trans HE3.out⟩
              · go_wp2_with fail
                refine (l1In_c _ _ _ _).mono ?_
                rintro e w4 ⟨rfl, hx4⟩
                obtain ⟨hk4, hf4⟩ := (hx3.trans hx4).cells
                simp only [World.size_alloc] at hk4 hf4
                have HE4 := Lib.hid (HE3.out.trans hx4)
                generalize hq : decide (0 ≤ (nth x.moves k).dst ∧ (nth x.moves k).dst ≤ (x.marks.length : Int) - 1) = q
                have HQ2 := Lib.hid hq
                clear hq hk3 hf3
                cases q
                · go_wp2
                  go_ret
                  exact ⟨ret_bool (by rw [HB.out, HR.out, HA.out, HG.out, HQ2.out]; simp), HE2.out.trans HE4.out⟩
                · go_wp2_with fail
                  refine (l1In_c _ _ _ _).mono ?_
                  rintro e w5 ⟨rfl, hx5⟩
                  have HE5 := Lib.hid (HE4.out.trans hx5)
                  generalize hq : decide (0 ≤ (nth x.moves k).by_ ∧ (nth x.moves k).by_ ≤ 23) = q
                  have HQ3 := Lib.hid hq
                  clear hq hk4 hf4
                  cases q
                  · go_wp2
                    go_ret
                    exact ⟨ret_bool (by rw [HB.out, HR.out, HA.out, HG.out, HQ3.out]; simp), HE2.out.trans HE5.out⟩
                  · go_wp2
                    go_roundw
                    case rel => exact ⟨k + 1, by omega, by go_num, by rw [HR.out, HA.out, HG.out, HQ1.out, HQ2.out, HQ3.out]; simp, HE5.out⟩
                    case measure => simp [intOf]; omega
            · obtain rfl : k = x.moves.length := by omega
              go_wp2
              go_ret
              exact ⟨ret_bool (by rw [HB.out, HQ.out, HN.out, HL.out, HR.out, drop_len _ (Nat.le_refl _)]; rfl), HE2.out.trans hb⟩
    · have HL := Lib.hid (show decide (x.moves.length ≤ 4000) = false by simp; omega)
      go_wp2
      go_ret
      exact ⟨ret_bool (by rw [HB.out, HL.out]; simp), HE1.out⟩
end Go.Proofs.Ytidfmgahnmpcdaa
