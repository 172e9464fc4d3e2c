/- EqualSTG of the reference. -/
import Derived.Test.YtboimpalblicnaaEqSTG
namespace Go.Proofs.Ytboimpalblicnaa
open Go.ChangeShapes Go.WideShapes Go.ChangeAt Go.RowKit

set_option maxHeartbeats 1600000 in
theorem specEqualSTG_c (w : World) (a1 : Option Addr) (c1 : Nat) (a2 : Option Addr) (c2 : Nat) (a3 : Option Addr) (c3 : Nat) (x : Stg) (h : tStg.R w x [.int .i64 x.net.places, .slice a1 x.net.trs.length c1, .slice a2 x.signals.length c2, .slice a3 x.labels.length c3, .string x.start])
    (b1 : Option Addr) (d1 : Nat) (b2 : Option Addr) (d2 : Nat) (b3 : Option Addr) (d3 : Nat) (y : Stg) (h' : tStg.R w y [.int .i64 y.net.places, .slice b1 y.net.trs.length d1, .slice b2 y.signals.length d2, .slice b3 y.labels.length d3, .string y.start]) :
    Calls Try.prog 60 #[.agg #[.int .i64 x.net.places, .slice a1 x.net.trs.length c1, .slice a2 x.signals.length c2, .slice a3 x.labels.length c3, .string x.start], .agg #[.int .i64 y.net.places, .slice b1 y.net.trs.length d1, .slice b2 y.signals.length d2, .slice b3 y.labels.length d3, .string y.start]] w
      fun e w' => e = .returned (.bool (eqSTG x y)) ∧ Ext w w' := by
  have HB : Hid (eqSTG x y = (decide (x.net.places = y.net.places) && decide (x.net.trs = y.net.trs) && decide (x.signals = y.signals) && decide (x.labels = y.labels) && decide (x.start = y.start))) := Lib.hid rfl
  obtain ⟨h0, h2, h3, h4⟩ := R_Stg.1 h
  obtain ⟨h0', h2', h3', h4'⟩ := R_Stg.1 h'
  have H0 := Lib.hid h0
  have H2 := Lib.hid h2
  have H0' := Lib.hid h0'
  have H2' := Lib.hid h2'
  have hn := R_len h3
  have hn' := R_len h3'
  obtain ⟨_, _, _, _, hs⟩ := R_sl.1 h3
  obtain ⟨_, _, _, _, hs'⟩ := R_sl.1 h3'
  clear h h' h0 h0' h2 h3 h4 h2' h3' h4'
  go_enter Try.func60, Try.ntmps60
  go_wp2_with fail
  refine (l2SameNet_c _ _ _ _ (H0.out.ext (((Ext.refl _).alloc _).alloc _)) _ _ _ (H0'.out.ext (((Ext.refl _).alloc _).alloc _))).mono ?_
  rintro e w1 ⟨rfl, hx1⟩
  have hE1 : Ext w w1 := (((Ext.refl _).alloc _).alloc _).trans hx1
  obtain ⟨hk1, hf1⟩ := hx1.cells
  simp only [World.size_alloc] at hk1 hf1
  cases hg : (decide (x.net.places = y.net.places) && decide (x.net.trs = y.net.trs))
  all_goals have HG := Lib.hid hg
  all_goals clear hg
  · go_wp2
    go_ret
    exact ⟨ret_bool (by rw [HB.out, HG.out]; rfl), hE1⟩
  · go_wp2_with fail
    refine (l2SameSignals_c _ _ _ _ _ _ _ (H2.out.ext hE1) (H2'.out.ext hE1)).mono ?_
    rintro e w2 ⟨rfl, hx2⟩
    have hE2 := hE1.trans hx2
    obtain ⟨hk2, hf2⟩ := (hx1.trans hx2).cells
    simp only [World.size_alloc] at hk2 hf2
    have hca : w2.cell? ⟨w.heap.size, 3, none⟩ = some (.slice a3 x.labels.length c3) := by rw [hk2 _ _ (by omega)]; simp
    have hcb : w2.cell? ⟨w.heap.size + 1, 3, none⟩ = some (.slice b3 y.labels.length d3) := by rw [hk2 _ _ (by omega)]; simp
    clear hk1 hf1
    cases hg : decide (x.signals = y.signals)
    all_goals have HG2 := Lib.hid hg
    all_goals clear hg
    · go_wp2
      go_ret
      exact ⟨ret_bool (by rw [HB.out, HG2.out]; simp), hE2⟩
    · by_cases hlen : x.labels.length = y.labels.length
      · have HN := Lib.hid hlen
        have hz : ((x.labels.length : Int) != (y.labels.length : Int)) = false := by simp [hlen]
        clear hlen
        by_cases hst : x.start = y.start
        · have HS := Lib.hid hst
          have hz2 : (x.start.toList != y.start.toList) = false := by rw [hst]; simp
          have hz3 : (x.start.toList == y.start.toList) = true := by rw [hst]; simp
          clear hst
          go_wp2
          go_loopw [39] (fun i wr => ∃ k : Nat, k ≤ x.labels.length ∧ i = .int .i64 k ∧ (∀ j, j < k → nth x.labels j = nth y.labels j) ∧ Ext w2 wr) (fun i _ => x.labels.length - (intOf i).toNat)
          case atStart => exact ⟨0, Nat.zero_le _, rfl, by omega, Ext.refl _⟩
          case round =>
            obtain ⟨k, hk, rfl, hj, hb⟩ := hrel
            have HJ := Lib.hid hj
            have hca' : wr.cell? ⟨w.heap.size, 3, none⟩ = some (.slice a3 x.labels.length c3) := by rw [hb.cell (lt_of_cell hca)]; exact hca
            have hcb' : wr.cell? ⟨w.heap.size + 1, 3, none⟩ = some (.slice b3 y.labels.length d3) := by rw [hb.cell (lt_of_cell hcb)]; exact hcb
            clear hj hca hcb hk2 hf2 hz hz2 hz3
            by_cases hlt : k < x.labels.length
            · have hlt' : k < y.labels.length := by have := HN.out; omega
              obtain ⟨b, o, rfl, hbs, hel⟩ := hs.get (by omega)
              obtain ⟨b', o', rfl, hbs', hel'⟩ := hs'.get (by omega)
              obtain ⟨_, hc0, hc1, hR⟩ := at_Lab ((hel k hlt).ext (hE2.trans hb) hbs)
              simp only [show tLab.n = 2 from rfl] at hc0 hc1
              obtain ⟨_, hc0', hc1', hR'⟩ := at_Lab ((hel' k hlt').ext (hE2.trans hb) hbs')
              simp only [show tLab.n = 2 from rfl] at hc0' hc1'
              clear hel hel'
              by_cases hq : nth x.labels k = nth y.labels k
              · rw [← hq] at hc0' hc1'
                have HQ := Lib.hid hq
                clear hq
                go_wp2
                go_quiet (fail)
                go_wp2
                go_roundw
                case rel => exact ⟨k + 1, by omega, by go_num, fun j hj => by by_cases e : j = k; (rw [e]; exact HQ.out); exact HJ.out j (by omega), hb.drewN _⟩
                case measure => simp [intOf]; omega
              · have HQ := Lib.hid (ne_of_nth hq)
                by_cases hd0 : (nth x.labels k).sig = (nth y.labels k).sig
                · rw [← hd0] at hc0'
                  have HD0 := Lib.hid hd0
                  clear hd0
                  have hd1 : ¬ (nth x.labels k).up = (nth y.labels k).up := fun e => hq (by cases hx : nth x.labels k; cases hy : nth y.labels k; simp_all [Hid])
                  have hz : ((nth x.labels k).up == (nth y.labels k).up) = false := by simpa using hd1
                  clear hq hd1
                  go_wp2
                  go_quiet (fail)
                  go_wp2
                  all_goals
                    go_ret
                    exact ⟨ret_bool (by rw [HB.out]; simp [HQ.out]), hE2.trans (hb.drewN _)⟩
                · have hz : ((nth x.labels k).sig == (nth y.labels k).sig) = false := by simpa using hd0
                  clear hq hd0
                  go_wp2
                  go_quiet (fail)
                  go_wp2
                  all_goals
                    go_ret
                    exact ⟨ret_bool (by rw [HB.out]; simp [HQ.out]), hE2.trans (hb.drewN _)⟩
            · obtain rfl : k = x.labels.length := by omega
              have HQ := Lib.hid (list_eq_of_nth HN.out HJ.out)
              go_wp2
              go_ret
              exact ⟨ret_bool (by rw [HB.out, HG.out, HG2.out]; simp [HQ.out, HS.out]), hE2.trans hb⟩
        · have HS := Lib.hid hst
          have hz2 : (x.start.toList == y.start.toList) = false := by rw [beq_eq_false_iff_ne]; exact fun e => hst (bytes_ext e)
          clear hst
          go_wp2
          go_ret
          exact ⟨ret_bool (by rw [HB.out]; simp [HS.out]), hE2⟩
      · have hz : ((x.labels.length : Int) != (y.labels.length : Int)) = true := by rw [bne_iff_ne]; omega
        have HQ := Lib.hid (show ¬ x.labels = y.labels from fun e => hlen (by rw [e]))
        clear hlen
        go_wp2
        go_ret
        exact ⟨ret_bool (by rw [HB.out]; simp [HQ.out]), hE2⟩
end Go.Proofs.Ytboimpalblicnaa
