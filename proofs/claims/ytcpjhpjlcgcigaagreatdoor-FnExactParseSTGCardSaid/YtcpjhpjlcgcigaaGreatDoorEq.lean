/- The laws' own helpers: eq, at two values that read as one and the same. -/
import Derived.Test.YtcpjhpjlcgcigaaGreatDoorTo
set_option linter.unusedSimpArgs false
set_option linter.unusedVariables false
namespace Go.Proofs.YtcpjhpjlcgcigaaGreatDoor
open Go.ChangeShapes Go.WideShapes Go.ChangeAt Go.RowKit

set_option maxHeartbeats 400000 in
theorem eqIntS_c (w : World) (a a' : Option Addr) (c c' : Nat) (l : List Int) (h : (tSl tInt).R w l [.slice a l.length c]) (h' : (tSl tInt).R w l [.slice a' l.length c']) :
    Calls Tryz.prog 95 #[.slice a l.length c, .slice a' l.length c'] w fun e w' => e = .returned (.bool true) ∧ Ext w w' := by
  have hn := R_len h
  obtain ⟨_, _, _, _, hs⟩ := R_sl.1 h
  obtain ⟨_, _, _, _, hs'⟩ := R_sl.1 h'
  clear h h'
  go_enter Tryz.func95, Tryz.ntmps95
  go_wp2
  go_loopw [5] (fun i wr => ∃ k : Nat, k ≤ l.length ∧ i = .int .i64 k ∧ Ext w wr) (fun i _ => l.length - (intOf i).toNat)
  case atStart => exact ⟨0, Nat.zero_le _, rfl, Ext.refl _⟩
  case round =>
    obtain ⟨k, hk, rfl, hb⟩ := hrel
    by_cases hlt : k < l.length
    · obtain ⟨b, o, rfl, hbs, hel⟩ := hs.get (by omega)
      obtain ⟨b', o', rfl, hbs', hel'⟩ := hs'.get (by omega)
      have hc := (at_int ((hel k hlt).ext hb hbs)).1
      have hc' := (at_int ((hel' k hlt).ext hb hbs')).1
      simp only [tInt, Nat.mul_one] at hc hc'
      clear hel hel'
      have hz : (nth l k != nth l k) = false := by simp
      go_wp2
      go_quiet (fail)
      go_wp2
      go_roundw
      case rel => exact ⟨k + 1, by omega, by go_num, hb.drewN _⟩
      case measure => simp [intOf]; omega
    · obtain rfl : k = l.length := by omega
      go_wp2
      go_ret
      exact ⟨rfl, hb⟩

set_option maxHeartbeats 400000 in
theorem eqTransition_c (w : World) (a0 : Option Addr) (c0 : Nat) (a1 : Option Addr) (c1 : Nat) (a0' : Option Addr) (c0' : Nat) (a1' : Option Addr) (c1' : Nat) (x : Tr) (h : tTr.R w x [.slice a0 x.pre.length c0, .slice a1 x.post.length c1]) (h' : tTr.R w x [.slice a0' x.pre.length c0', .slice a1' x.post.length c1']) :
    Calls Tryz.prog 72 #[.agg #[.slice a0 x.pre.length c0, .slice a1 x.post.length c1], .agg #[.slice a0' x.pre.length c0', .slice a1' x.post.length c1']] w fun e w' => e = .returned (.bool true) ∧ Ext w w' := by
  obtain ⟨h_pre, h_post⟩ := R_Tr.1 h
  have H_pre := Lib.hid h_pre
  have H_post := Lib.hid h_post
  clear h h_pre h_post
  obtain ⟨h_pre', h_post'⟩ := R_Tr.1 h'
  have H_pre' := Lib.hid h_pre'
  have H_post' := Lib.hid h_post'
  clear h' h_pre' h_post'
  go_enter Tryz.func72, Tryz.ntmps72
  go_wp2_with fail
  refine (eqIntS_c _ _ _ _ _ _ (Ty.R.ext H_pre.out (by repeat (first | with_reducible exact Ext.refl _ | with_reducible exact Ext.refl _ | refine Ext.alloc ?_ _))) (Ty.R.ext H_pre'.out (by repeat (first | with_reducible exact Ext.refl _ | with_reducible exact Ext.refl _ | refine Ext.alloc ?_ _)))).mono ?_
  rintro e w1 ⟨rfl, hx0⟩
  have hE1 : Ext w w1 := Ext.trans (by repeat (first | with_reducible exact Ext.refl _ | with_reducible exact Ext.refl _ | refine Ext.alloc ?_ _)) hx0
  have hB0 := hx0
  obtain ⟨hk0, hq0⟩ := hB0.cells
  simp only [World.size_alloc] at hk0 hq0
  go_wp2_with fail
  refine (eqIntS_c _ _ _ _ _ _ (Ty.R.ext H_post.out (by repeat (first | with_reducible exact hE1 | with_reducible exact Ext.refl _ | refine Ext.alloc ?_ _))) (Ty.R.ext H_post'.out (by repeat (first | with_reducible exact hE1 | with_reducible exact Ext.refl _ | refine Ext.alloc ?_ _)))).mono ?_
  rintro e w2 ⟨rfl, hx1⟩
  have hE2 : Ext w w2 := Ext.trans (by repeat (first | with_reducible exact hE1 | with_reducible exact Ext.refl _ | refine Ext.alloc ?_ _)) hx1
  have hB1 := hB0.trans hx1
  obtain ⟨hk1, hq1⟩ := hB1.cells
  simp only [World.size_alloc] at hk1 hq1
  go_wp2
  go_ret
  exact ⟨rfl, (by repeat (first | with_reducible exact hE2 | with_reducible exact Ext.refl _ | refine Ext.alloc ?_ _))⟩

set_option maxHeartbeats 400000 in
theorem eqTransitionS_c (w : World) (a a' : Option Addr) (c c' : Nat) (l : List Tr) (h : (tSl tTr).R w l [.slice a l.length c]) (h' : (tSl tTr).R w l [.slice a' l.length c']) :
    Calls Tryz.prog 47 #[.slice a l.length c, .slice a' l.length c'] w fun e w' => e = .returned (.bool true) ∧ Ext w w' := by
  have hn := R_len h
  obtain ⟨_, _, _, _, hs⟩ := R_sl.1 h
  obtain ⟨_, _, _, _, hs'⟩ := R_sl.1 h'
  clear h h'
  go_enter Tryz.func47, Tryz.ntmps47
  go_wp2
  go_loopw [5] (fun i wr => ∃ k : Nat, k ≤ l.length ∧ i = .int .i64 k ∧ Ext w wr) (fun i _ => l.length - (intOf i).toNat)
  case atStart => exact ⟨0, Nat.zero_le _, rfl, Ext.refl _⟩
  case round =>
    obtain ⟨k, hk, rfl, hb⟩ := hrel
    by_cases hlt : k < l.length
    · obtain ⟨b, o, rfl, hbs, hel⟩ := hs.get (by omega)
      obtain ⟨b', o', rfl, hbs', hel'⟩ := hs'.get (by omega)
      obtain ⟨a0, c0, a1, c1, hc0, hc1, hR⟩ := at_Tr ((hel k hlt).ext hb hbs)
      simp only [show tTr.n = 2 from rfl] at hc0 hc1
      have hd0 := Later.cell hc0
      have hd1 := Later.cell hc1
      obtain ⟨a0', c0', a1', c1', hc0', hc1', hR'⟩ := at_Tr ((hel' k hlt).ext hb hbs')
      simp only [show tTr.n = 2 from rfl] at hc0' hc1'
      have hd0' := Later.cell hc0'
      have hd1' := Later.cell hc1'
      clear hel hel' hc0 hc1 hc0' hc1'
      have HR := Lib.hid hR
      have HR' := Lib.hid hR'
      clear hR hR'
      go_wp2
      refine wp_region_later (by kernel_rfl) (by kernel_rfl) ?_
      repeat (go_big_quiet_step (exact calls_later (eqTransition_c _ _ _ _ _ _ _ _ _ _ (HR.out.ext (Later.ext _)) (HR'.out.ext (Later.ext _)))))
      refine wpQuiet_nil ?_
      rintro _ ⟨⟨w2, hx⟩, rfl⟩
      have hb2 := hb.trans hx
      clear hd0 hd1 hd0' hd1'
      go_wp2
      go_roundw
      case rel => exact ⟨k + 1, by omega, by go_num, hb2⟩
      case measure => simp [intOf]; omega
    · obtain rfl : k = l.length := by omega
      go_wp2
      go_ret
      exact ⟨rfl, hb⟩

set_option maxHeartbeats 400000 in
theorem eqSignal_c (w : World) (x : Sig) (h : tSig.R w x [.string x.name, .int .i64 x.kind]) (h' : tSig.R w x [.string x.name, .int .i64 x.kind]) :
    Calls Tryz.prog 48 #[.agg #[.string x.name, .int .i64 x.kind], .agg #[.string x.name, .int .i64 x.kind]] w fun e w' => e = .returned (.bool true) ∧ Ext w w' := by
  obtain ⟨h_name, h_kind⟩ := R_Sig.1 h
  have H_name := Lib.hid h_name
  have H_kind := Lib.hid h_kind
  clear h h_name h_kind
  obtain ⟨h_name', h_kind'⟩ := R_Sig.1 h'
  have H_name' := Lib.hid h_name'
  have H_kind' := Lib.hid h_kind'
  clear h' h_name' h_kind'
  go_enter Tryz.func48, Tryz.ntmps48
  go_wp2
  go_ret
  exact ⟨rfl, (by repeat (first | with_reducible exact Ext.refl _ | with_reducible exact Ext.refl _ | refine Ext.alloc ?_ _))⟩

set_option maxHeartbeats 400000 in
theorem eqSignalS_c (w : World) (a a' : Option Addr) (c c' : Nat) (l : List Sig) (h : (tSl tSig).R w l [.slice a l.length c]) (h' : (tSl tSig).R w l [.slice a' l.length c']) :
    Calls Tryz.prog 20 #[.slice a l.length c, .slice a' l.length c'] w fun e w' => e = .returned (.bool true) ∧ Ext w w' := by
  have hn := R_len h
  obtain ⟨_, _, _, _, hs⟩ := R_sl.1 h
  obtain ⟨_, _, _, _, hs'⟩ := R_sl.1 h'
  clear h h'
  go_enter Tryz.func20, Tryz.ntmps20
  go_wp2
  go_loopw [5] (fun i wr => ∃ k : Nat, k ≤ l.length ∧ i = .int .i64 k ∧ Ext w wr) (fun i _ => l.length - (intOf i).toNat)
  case atStart => exact ⟨0, Nat.zero_le _, rfl, Ext.refl _⟩
  case round =>
    obtain ⟨k, hk, rfl, hb⟩ := hrel
    by_cases hlt : k < l.length
    · obtain ⟨b, o, rfl, hbs, hel⟩ := hs.get (by omega)
      obtain ⟨b', o', rfl, hbs', hel'⟩ := hs'.get (by omega)
      obtain ⟨_, hc0, hc1, hR⟩ := at_Sig ((hel k hlt).ext hb hbs)
      simp only [show tSig.n = 2 from rfl] at hc0 hc1
      have hd0 := Later.cell hc0
      have hd1 := Later.cell hc1
      obtain ⟨_, hc0', hc1', hR'⟩ := at_Sig ((hel' k hlt).ext hb hbs')
      simp only [show tSig.n = 2 from rfl] at hc0' hc1'
      have hd0' := Later.cell hc0'
      have hd1' := Later.cell hc1'
      clear hel hel' hc0 hc1 hc0' hc1'
      have HR := Lib.hid hR
      have HR' := Lib.hid hR'
      clear hR hR'
      go_wp2
      refine wp_region_later (by kernel_rfl) (by kernel_rfl) ?_
      repeat (go_big_quiet_step (exact calls_later (eqSignal_c _ _ (HR.out.ext (Later.ext _)) (HR'.out.ext (Later.ext _)))))
      refine wpQuiet_nil ?_
      rintro _ ⟨⟨w2, hx⟩, rfl⟩
      have hb2 := hb.trans hx
      clear hd0 hd1 hd0' hd1'
      go_wp2
      go_roundw
      case rel => exact ⟨k + 1, by omega, by go_num, hb2⟩
      case measure => simp [intOf]; omega
    · obtain rfl : k = l.length := by omega
      go_wp2
      go_ret
      exact ⟨rfl, hb⟩

set_option maxHeartbeats 400000 in
theorem eqLabel_c (w : World) (x : Lab) (h : tLab.R w x [.int .i64 x.sig, .bool x.up]) (h' : tLab.R w x [.int .i64 x.sig, .bool x.up]) :
    Calls Tryz.prog 49 #[.agg #[.int .i64 x.sig, .bool x.up], .agg #[.int .i64 x.sig, .bool x.up]] w fun e w' => e = .returned (.bool true) ∧ Ext w w' := by
  obtain ⟨h_sig, h_up⟩ := R_Lab.1 h
  have H_sig := Lib.hid h_sig
  have H_up := Lib.hid h_up
  clear h h_sig h_up
  obtain ⟨h_sig', h_up'⟩ := R_Lab.1 h'
  have H_sig' := Lib.hid h_sig'
  have H_up' := Lib.hid h_up'
  clear h' h_sig' h_up'
  go_enter Tryz.func49, Tryz.ntmps49
  go_wp2
  go_ret
  exact ⟨rfl, (by repeat (first | with_reducible exact Ext.refl _ | with_reducible exact Ext.refl _ | refine Ext.alloc ?_ _))⟩

set_option maxHeartbeats 400000 in
theorem eqLabelS_c (w : World) (a a' : Option Addr) (c c' : Nat) (l : List Lab) (h : (tSl tLab).R w l [.slice a l.length c]) (h' : (tSl tLab).R w l [.slice a' l.length c']) :
    Calls Tryz.prog 21 #[.slice a l.length c, .slice a' l.length c'] w fun e w' => e = .returned (.bool true) ∧ Ext w w' := by
  have hn := R_len h
  obtain ⟨_, _, _, _, hs⟩ := R_sl.1 h
  obtain ⟨_, _, _, _, hs'⟩ := R_sl.1 h'
  clear h h'
  go_enter Tryz.func21, Tryz.ntmps21
  go_wp2
  go_loopw [5] (fun i wr => ∃ k : Nat, k ≤ l.length ∧ i = .int .i64 k ∧ Ext w wr) (fun i _ => l.length - (intOf i).toNat)
  case atStart => exact ⟨0, Nat.zero_le _, rfl, Ext.refl _⟩
  case round =>
    obtain ⟨k, hk, rfl, hb⟩ := hrel
    by_cases hlt : k < l.length
    · obtain ⟨b, o, rfl, hbs, hel⟩ := hs.get (by omega)
      obtain ⟨b', o', rfl, hbs', hel'⟩ := hs'.get (by omega)
      obtain ⟨_, hc0, hc1, hR⟩ := at_Lab ((hel k hlt).ext hb hbs)
      simp only [show tLab.n = 2 from rfl] at hc0 hc1
      have hd0 := Later.cell hc0
      have hd1 := Later.cell hc1
      obtain ⟨_, hc0', hc1', hR'⟩ := at_Lab ((hel' k hlt).ext hb hbs')
      simp only [show tLab.n = 2 from rfl] at hc0' hc1'
      have hd0' := Later.cell hc0'
      have hd1' := Later.cell hc1'
      clear hel hel' hc0 hc1 hc0' hc1'
      have HR := Lib.hid hR
      have HR' := Lib.hid hR'
      clear hR hR'
      go_wp2
      refine wp_region_later (by kernel_rfl) (by kernel_rfl) ?_
      repeat (go_big_quiet_step (exact calls_later (eqLabel_c _ _ (HR.out.ext (Later.ext _)) (HR'.out.ext (Later.ext _)))))
      refine wpQuiet_nil ?_
      rintro _ ⟨⟨w2, hx⟩, rfl⟩
      have hb2 := hb.trans hx
      clear hd0 hd1 hd0' hd1'
      go_wp2
      go_roundw
      case rel => exact ⟨k + 1, by omega, by go_num, hb2⟩
      case measure => simp [intOf]; omega
    · obtain rfl : k = l.length := by omega
      go_wp2
      go_ret
      exact ⟨rfl, hb⟩

set_option maxHeartbeats 400000 in
theorem eqNet_c (w : World) (a1 : Option Addr) (c1 : Nat) (a1' : Option Addr) (c1' : Nat) (x : NetD) (h : tNetD.R w x [.int .i64 x.places, .slice a1 x.trs.length c1]) (h' : tNetD.R w x [.int .i64 x.places, .slice a1' x.trs.length c1']) :
    Calls Tryz.prog 19 #[.agg #[.int .i64 x.places, .slice a1 x.trs.length c1], .agg #[.int .i64 x.places, .slice a1' x.trs.length c1']] w fun e w' => e = .returned (.bool true) ∧ Ext w w' := by
  obtain ⟨h_places, h_trs⟩ := R_NetD.1 h
  have H_places := Lib.hid h_places
  have H_trs := Lib.hid h_trs
  clear h h_places h_trs
  obtain ⟨h_places', h_trs'⟩ := R_NetD.1 h'
  have H_places' := Lib.hid h_places'
  have H_trs' := Lib.hid h_trs'
  clear h' h_places' h_trs'
  go_enter Tryz.func19, Tryz.ntmps19
  go_wp2_with fail
  refine (eqTransitionS_c _ _ _ _ _ _ (Ty.R.ext H_trs.out (by repeat (first | with_reducible exact Ext.refl _ | with_reducible exact Ext.refl _ | refine Ext.alloc ?_ _))) (Ty.R.ext H_trs'.out (by repeat (first | with_reducible exact Ext.refl _ | with_reducible exact Ext.refl _ | refine Ext.alloc ?_ _)))).mono ?_
  rintro e w1 ⟨rfl, hx0⟩
  have hE1 : Ext w w1 := Ext.trans (by repeat (first | with_reducible exact Ext.refl _ | with_reducible exact Ext.refl _ | refine Ext.alloc ?_ _)) hx0
  have hB0 := hx0
  obtain ⟨hk0, hq0⟩ := hB0.cells
  simp only [World.size_alloc] at hk0 hq0
  go_wp2
  go_ret
  exact ⟨rfl, (by repeat (first | with_reducible exact hE1 | with_reducible exact Ext.refl _ | refine Ext.alloc ?_ _))⟩

set_option maxHeartbeats 400000 in
theorem eqSTG_c (w : World) (a1 : Option Addr) (c1 : Nat) (a2 : Option Addr) (c2 : Nat) (a3 : Option Addr) (c3 : Nat) (a1' : Option Addr) (c1' : Nat) (a2' : Option Addr) (c2' : Nat) (a3' : Option Addr) (c3' : Nat) (x : Stg) (h : tStg.R w x [.int .i64 x.net.places, .slice a1 x.net.trs.length c1, .slice a2 x.signals.length c2, .slice a3 x.labels.length c3, .string x.start]) (h' : tStg.R w x [.int .i64 x.net.places, .slice a1' x.net.trs.length c1', .slice a2' x.signals.length c2', .slice a3' x.labels.length c3', .string x.start]) :
    Calls Tryz.prog 6 #[.agg #[.int .i64 x.net.places, .slice a1 x.net.trs.length c1, .slice a2 x.signals.length c2, .slice a3 x.labels.length c3, .string x.start], .agg #[.int .i64 x.net.places, .slice a1' x.net.trs.length c1', .slice a2' x.signals.length c2', .slice a3' x.labels.length c3', .string x.start]] w fun e w' => e = .returned (.bool true) ∧ Ext w w' := by
  obtain ⟨h_net, h_signals, h_labels, h_start⟩ := R_Stg.1 h
  have H_net := Lib.hid h_net
  have H_signals := Lib.hid h_signals
  have H_labels := Lib.hid h_labels
  have H_start := Lib.hid h_start
  clear h h_net h_signals h_labels h_start
  obtain ⟨h_net', h_signals', h_labels', h_start'⟩ := R_Stg.1 h'
  have H_net' := Lib.hid h_net'
  have H_signals' := Lib.hid h_signals'
  have H_labels' := Lib.hid h_labels'
  have H_start' := Lib.hid h_start'
  clear h' h_net' h_signals' h_labels' h_start'
  go_enter Tryz.func6, Tryz.ntmps6
  go_wp2_with fail
  refine (eqNet_c _ _ _ _ _ _ (Ty.R.ext H_net.out (by repeat (first | with_reducible exact Ext.refl _ | with_reducible exact Ext.refl _ | refine Ext.alloc ?_ _))) (Ty.R.ext H_net'.out (by repeat (first | with_reducible exact Ext.refl _ | with_reducible exact Ext.refl _ | refine Ext.alloc ?_ _)))).mono ?_
  rintro e w1 ⟨rfl, hx0⟩
  have hE1 : Ext w w1 := Ext.trans (by repeat (first | with_reducible exact Ext.refl _ | with_reducible exact Ext.refl _ | refine Ext.alloc ?_ _)) hx0
  have hB0 := hx0
  obtain ⟨hk0, hq0⟩ := hB0.cells
  simp only [World.size_alloc] at hk0 hq0
  go_wp2_with fail
  refine (eqSignalS_c _ _ _ _ _ _ (Ty.R.ext H_signals.out (by repeat (first | with_reducible exact hE1 | with_reducible exact Ext.refl _ | refine Ext.alloc ?_ _))) (Ty.R.ext H_signals'.out (by repeat (first | with_reducible exact hE1 | with_reducible exact Ext.refl _ | refine Ext.alloc ?_ _)))).mono ?_
  rintro e w2 ⟨rfl, hx1⟩
  have hE2 : Ext w w2 := Ext.trans (by repeat (first | with_reducible exact hE1 | with_reducible exact Ext.refl _ | refine Ext.alloc ?_ _)) hx1
  have hB1 := hB0.trans hx1
  obtain ⟨hk1, hq1⟩ := hB1.cells
  simp only [World.size_alloc] at hk1 hq1
  go_wp2_with fail
  refine (eqLabelS_c _ _ _ _ _ _ (Ty.R.ext H_labels.out (by repeat (first | with_reducible exact hE2 | with_reducible exact Ext.refl _ | refine Ext.alloc ?_ _))) (Ty.R.ext H_labels'.out (by repeat (first | with_reducible exact hE2 | with_reducible exact Ext.refl _ | refine Ext.alloc ?_ _)))).mono ?_
  rintro e w3 ⟨rfl, hx2⟩
  have hE3 : Ext w w3 := Ext.trans (by repeat (first | with_reducible exact hE2 | with_reducible exact Ext.refl _ | refine Ext.alloc ?_ _)) hx2
  have hB2 := hB1.trans hx2
  obtain ⟨hk2, hq2⟩ := hB2.cells
  simp only [World.size_alloc] at hk2 hq2
  go_wp2
  go_ret
  exact ⟨rfl, (by repeat (first | with_reducible exact hE3 | with_reducible exact Ext.refl _ | refine Ext.alloc ?_ _))⟩
end Go.Proofs.YtcpjhpjlcgcigaaGreatDoor
