/- EqualStateGraph of the reference. -/
import Derived.Test.YtaeepdgnaoobnaaSlices
namespace Go.Proofs.Ytaeepdgnaoobnaa
open Go.ChangeShapes Go.WideShapes Go.ChangeAt Go.RowKit

def eqSG (x y : SGraph) : Bool := decide (x.signals = y.signals) && decide (x.codes = y.codes) && decide (x.arcs = y.arcs)

set_option maxHeartbeats 1600000 in
theorem specEqualStateGraph_c (w : World) (a0 : Option Addr) (c0 : Nat) (a1 : Option Addr) (c1 : Nat) (a2 : Option Addr) (c2 : Nat) (x : SGraph) (h : tSGraph.R w x [.slice a0 x.signals.length c0, .slice a1 x.codes.length c1, .slice a2 x.arcs.length c2])
    (b0 : Option Addr) (d0 : Nat) (b1 : Option Addr) (d1 : Nat) (b2 : Option Addr) (d2 : Nat) (y : SGraph) (h' : tSGraph.R w y [.slice b0 y.signals.length d0, .slice b1 y.codes.length d1, .slice b2 y.arcs.length d2]) :
    Calls Try.prog 24 #[.agg #[.slice a0 x.signals.length c0, .slice a1 x.codes.length c1, .slice a2 x.arcs.length c2], .agg #[.slice b0 y.signals.length d0, .slice b1 y.codes.length d1, .slice b2 y.arcs.length d2]] w
      fun e w' => e = .returned (.bool (eqSG x y)) ∧ Ext w w' := by
  have HB : Hid (eqSG x y = (decide (x.signals = y.signals) && decide (x.codes = y.codes) && decide (x.arcs = y.arcs))) := Lib.hid rfl
  obtain ⟨h0, h1, h2⟩ := R_SGraph.1 h
  obtain ⟨h0', h1', h2'⟩ := R_SGraph.1 h'
  have H0 := Lib.hid h0
  have H1 := Lib.hid h1
  have H2 := Lib.hid h2
  have H0' := Lib.hid h0'
  have H1' := Lib.hid h1'
  have H2' := Lib.hid h2'
  have hn := R_len h2
  have hn' := R_len h2'
  clear h h' h0 h1 h2 h0' h1' h2'
  go_enter Try.func24, Try.ntmps24
  go_wp2_with fail
  refine (l2SameSignals_c _ _ _ _ _ _ _ (H0.out.ext (((Ext.refl _).alloc _).alloc _)) (H0'.out.ext (((Ext.refl _).alloc _).alloc _))).mono ?_
  rintro e w1 ⟨rfl, hx1⟩
  have hE1 : Ext w w1 := (((Ext.refl _).alloc _).alloc _).trans hx1
  obtain ⟨hk1, hf1⟩ := hx1.cells
  simp only [World.size_alloc] at hk1 hf1
  cases hg : decide (x.signals = y.signals)
  all_goals have HG := Lib.hid hg
  all_goals clear hg
  · go_wp2
    go_ret
    exact ⟨ret_bool (by rw [HB.out, HG.out]; rfl), hE1⟩
  · go_wp2_with fail
    refine (l1SameS_c _ _ _ _ _ _ _ (H1.out.ext hE1) (H1'.out.ext hE1)).mono ?_
    rintro e w2 ⟨rfl, hx2⟩
    have hE2 := hE1.trans hx2
    have hk2 := (hx1.trans hx2).cells.1
    simp only [World.size_alloc] at hk2
    have hca : w2.cell? ⟨w.heap.size, 2, none⟩ = some (.slice a2 x.arcs.length c2) := by rw [hk2 _ _ (by omega)]; simp
    have hcb : w2.cell? ⟨w.heap.size + 1, 2, none⟩ = some (.slice b2 y.arcs.length d2) := by rw [hk2 _ _ (by omega)]; simp
    clear hk1 hf1 hk2
    cases hg : decide (x.codes = y.codes)
    all_goals have HG2 := Lib.hid hg
    all_goals clear hg
    · go_wp2
      go_ret
      exact ⟨ret_bool (by rw [HB.out, HG2.out]; simp), hE2⟩
    · by_cases hlen : x.arcs.length = y.arcs.length
      · have HN := Lib.hid hlen
        have hz : ((x.arcs.length : Int) != (y.arcs.length : Int)) = false := by simp [hlen]
        obtain ⟨_, _, _, _, hs⟩ := R_sl.1 H2.out
        obtain ⟨_, _, _, _, hs'⟩ := R_sl.1 H2'.out
        clear hlen
        go_wp2
        go_loopw [32] (fun i wr => ∃ k : Nat, k ≤ x.arcs.length ∧ i = .int .i64 k ∧ (∀ j, j < k → nth x.arcs j = nth y.arcs j) ∧ Ext w2 wr) (fun i _ => x.arcs.length - (intOf i).toNat)
        case atStart => exact ⟨0, Nat.zero_le _, rfl, by omega, Ext.refl _⟩
        case round =>
          obtain ⟨k, hk, rfl, hj, hb⟩ := hrel
          have HJ := Lib.hid hj
          have hca' : wr.cell? ⟨w.heap.size, 2, none⟩ = some (.slice a2 x.arcs.length c2) := by rw [hb.cell (lt_of_cell hca)]; exact hca
          have hcb' : wr.cell? ⟨w.heap.size + 1, 2, none⟩ = some (.slice b2 y.arcs.length d2) := by rw [hb.cell (lt_of_cell hcb)]; exact hcb
          clear hj hca hcb
          by_cases hlt : k < x.arcs.length
          · have hlt' : k < y.arcs.length := by have := HN.out; omega
            obtain ⟨b, o, rfl, hbs, hel⟩ := hs.get (by omega)
            obtain ⟨b', o', rfl, hbs', hel'⟩ := hs'.get (by omega)
            obtain ⟨_, hc0, hc1, hc2, hc3, hR⟩ := at_ArcD ((hel k hlt).ext (hE2.trans hb) hbs)
            simp only [show tArcD.n = 4 from rfl] at hc0 hc1 hc2 hc3
            obtain ⟨_, hc0', hc1', hc2', hc3', hR'⟩ := at_ArcD ((hel' k hlt').ext (hE2.trans hb) hbs')
            simp only [show tArcD.n = 4 from rfl] at hc0' hc1' hc2' hc3'
            clear hel hel'
            by_cases hq : nth x.arcs k = nth y.arcs k
            · rw [← hq] at hc0' hc1' hc2' hc3'
              have HQ := Lib.hid hq
              clear hq
              go_wp2
              go_quiet (fail)
              go_wp2
              go_roundw
              case rel => exact ⟨k + 1, by omega, by go_num, fun j hj => by by_cases e : j = k; (rw [e]; exact HQ.out); exact HJ.out j (by omega), hb.drewN _⟩
              case measure => simp [intOf]; omega
            · have HQ := Lib.hid (ne_of_nth hq)
              by_cases hd0 : (nth x.arcs k).src = (nth y.arcs k).src
              · rw [← hd0] at hc0'
                have HD0 := Lib.hid hd0
                clear hd0
                by_cases hd1 : (nth x.arcs k).sig = (nth y.arcs k).sig
                · rw [← hd1] at hc1'
                  have HD1 := Lib.hid hd1
                  clear hd1
                  by_cases hd2 : (nth x.arcs k).up = (nth y.arcs k).up
                  · rw [← hd2] at hc2'
                    have HD2 := Lib.hid hd2
                    clear hd2
                    have hd3 : ¬ (nth x.arcs k).dst = (nth y.arcs k).dst := fun e => hq (by cases hx : nth x.arcs k; cases hy : nth y.arcs k; simp_all [Hid])
                    have hz : ((nth x.arcs k).dst == (nth y.arcs k).dst) = false := by simpa using hd3
                    clear hq hd3
                    go_wp2
                    go_quiet (fail)
                    go_wp2
                    all_goals
                      go_ret
                      exact ⟨ret_bool (by rw [HB.out]; simp [HQ.out]), hE2.trans (hb.drewN _)⟩
                  · have hz : ((nth x.arcs k).up == (nth y.arcs k).up) = false := by simpa using hd2
                    clear hq hd2
                    go_wp2
                    go_quiet (fail)
                    go_wp2
                    all_goals
                      go_ret
                      exact ⟨ret_bool (by rw [HB.out]; simp [HQ.out]), hE2.trans (hb.drewN _)⟩
                · have hz : ((nth x.arcs k).sig == (nth y.arcs k).sig) = false := by simpa using hd1
                  clear hq hd1
                  go_wp2
                  go_quiet (fail)
                  go_wp2
                  all_goals
                    go_ret
                    exact ⟨ret_bool (by rw [HB.out]; simp [HQ.out]), hE2.trans (hb.drewN _)⟩
              · have hz : ((nth x.arcs k).src == (nth y.arcs k).src) = false := by simpa using hd0
                clear hq hd0
                go_wp2
                go_quiet (fail)
                go_wp2
                all_goals
                  go_ret
                  exact ⟨ret_bool (by rw [HB.out]; simp [HQ.out]), hE2.trans (hb.drewN _)⟩
          · obtain rfl : k = x.arcs.length := by omega
            have HQ := Lib.hid (list_eq_of_nth HN.out HJ.out)
            go_wp2
            go_ret
            exact ⟨ret_bool (by rw [HB.out, HG.out, HG2.out]; simp [HQ.out]), hE2.trans hb⟩
      · have hz : ((x.arcs.length : Int) != (y.arcs.length : Int)) = true := by rw [bne_iff_ne]; omega
        have HQ := Lib.hid (show ¬ x.arcs = y.arcs from fun e => hlen (by rw [e]))
        clear hlen
        go_wp2
        go_ret
        exact ⟨ret_bool (by rw [HB.out]; simp [HQ.out]), hE2⟩
end Go.Proofs.Ytaeepdgnaoobnaa
