/- The laws' own helpers: eq, at two values that read as one and the same. -/
import Derived.Test.YtcmedjlpaondjaaTo
set_option linter.unusedSimpArgs false
set_option linter.unusedVariables false
namespace Go.Proofs.Ytcmedjlpaondjaa
open Go.ChangeShapes Go.WideShapes Go.ChangeAt Go.RowKit

set_option maxHeartbeats 400000 in
theorem eqIntS_c (w : World) (a a' : Option Addr) (c c' : Nat) (l : List Int) (h : (tSl tInt).R w l [.slice a l.length c]) (h' : (tSl tInt).R w l [.slice a' l.length c']) :
    Calls Try.prog 17 #[.slice a l.length c, .slice a' l.length c'] w fun e w' => e = .returned (.bool true) ∧ Ext w w' := by
  have hn := R_len h
  obtain ⟨_, _, _, _, hs⟩ := R_sl.1 h
  obtain ⟨_, _, _, _, hs'⟩ := R_sl.1 h'
  clear h h'
  go_enter Try.func17, Try.ntmps17
  go_wp2
  go_loopw [5] (fun i wr => ∃ k : Nat, k ≤ l.length ∧ i = .int .i64 k ∧ Ext w wr) (fun i _ => l.length - (intOf i).toNat)
  case atStart => exact ⟨0, Nat.zero_le _, rfl, Ext.refl _⟩
  case round =>
    obtain ⟨k, hk, rfl, hb⟩ := hrel
    by_cases hlt : k < l.length
    · obtain ⟨b, o, rfl, hbs, hel⟩ := hs.get (by omega)
      obtain ⟨b', o', rfl, hbs', hel'⟩ := hs'.get (by omega)
      have hc := (at_int ((hel k hlt).ext hb hbs)).1
      have hc' := (at_int ((hel' k hlt).ext hb hbs')).1
      simp only [tInt, Nat.mul_one] at hc hc'
      clear hel hel'
      have hz : (nth l k != nth l k) = false := by simp
      go_wp2
      go_quiet (fail)
      go_wp2
      go_roundw
      case rel => exact ⟨k + 1, by omega, by go_num, hb.drewN _⟩
      case measure => simp [intOf]; omega
    · obtain rfl : k = l.length := by omega
      go_wp2
      go_ret
      exact ⟨rfl, hb⟩

set_option maxHeartbeats 400000 in
theorem eqStringS_c (w : World) (a a' : Option Addr) (c c' : Nat) (l : List ByteArray) (h : (tSl tStr).R w l [.slice a l.length c]) (h' : (tSl tStr).R w l [.slice a' l.length c']) :
    Calls Try.prog 47 #[.slice a l.length c, .slice a' l.length c'] w fun e w' => e = .returned (.bool true) ∧ Ext w w' := by
  have hn := R_len h
  obtain ⟨_, _, _, _, hs⟩ := R_sl.1 h
  obtain ⟨_, _, _, _, hs'⟩ := R_sl.1 h'
  clear h h'
  go_enter Try.func47, Try.ntmps47
  go_wp2
  go_loopw [5] (fun i wr => ∃ k : Nat, k ≤ l.length ∧ i = .int .i64 k ∧ Ext w wr) (fun i _ => l.length - (intOf i).toNat)
  case atStart => exact ⟨0, Nat.zero_le _, rfl, Ext.refl _⟩
  case round =>
    obtain ⟨k, hk, rfl, hb⟩ := hrel
    by_cases hlt : k < l.length
    · obtain ⟨b, o, rfl, hbs, hel⟩ := hs.get (by omega)
      obtain ⟨b', o', rfl, hbs', hel'⟩ := hs'.get (by omega)
      have hc := (at_str ((hel k hlt).ext hb hbs)).1
      have hc' := (at_str ((hel' k hlt).ext hb hbs')).1
      simp only [tStr, Nat.mul_one] at hc hc'
      clear hel hel'
      go_wp2
      go_quiet (fail)
      go_wp2
      go_roundw
      case rel => exact ⟨k + 1, by omega, by go_num, hb.drewN _⟩
      case measure => simp [intOf]; omega
    · obtain rfl : k = l.length := by omega
      go_wp2
      go_ret
      exact ⟨rfl, hb⟩

set_option maxHeartbeats 400000 in
theorem eqIntSS_c (w : World) (a a' : Option Addr) (c c' : Nat) (l : List (List Int)) (h : (tSl (tSl tInt)).R w l [.slice a l.length c]) (h' : (tSl (tSl tInt)).R w l [.slice a' l.length c']) :
    Calls Try.prog 29 #[.slice a l.length c, .slice a' l.length c'] w fun e w' => e = .returned (.bool true) ∧ Ext w w' := by
  have hn := R_len h
  obtain ⟨_, _, _, _, hs⟩ := R_sl.1 h
  obtain ⟨_, _, _, _, hs'⟩ := R_sl.1 h'
  clear h h'
  go_enter Try.func29, Try.ntmps29
  go_wp2
  go_loopw [5] (fun i wr => ∃ k : Nat, k ≤ l.length ∧ i = .int .i64 k ∧ Ext w wr) (fun i _ => l.length - (intOf i).toNat)
  case atStart => exact ⟨0, Nat.zero_le _, rfl, Ext.refl _⟩
  case round =>
    obtain ⟨k, hk, rfl, hb⟩ := hrel
    by_cases hlt : k < l.length
    · obtain ⟨b, o, rfl, hbs, hel⟩ := hs.get (by omega)
      obtain ⟨b', o', rfl, hbs', hel'⟩ := hs'.get (by omega)
      obtain ⟨a0, c0, hc0, hu1, hu2, hu3, hu4⟩ := at_sl ((hel k hlt).ext hb hbs)
      have hR := R_sl.2 ⟨rfl, hu1, hu2, hu3, hu4⟩
      simp only [tSl, Nat.mul_one] at hc0
      clear hu1 hu2 hu3 hu4
      have hd0 := Later.cell hc0
      obtain ⟨a0', c0', hc0', hu1', hu2', hu3', hu4'⟩ := at_sl ((hel' k hlt).ext hb hbs')
      have hR' := R_sl.2 ⟨rfl, hu1', hu2', hu3', hu4'⟩
      simp only [tSl, Nat.mul_one] at hc0'
      clear hu1' hu2' hu3' hu4'
      have hd0' := Later.cell hc0'
      clear hel hel' hc0 hc0'
      have HR := Lib.hid hR
      have HR' := Lib.hid hR'
      clear hR hR'
      go_wp2
      refine wp_region_later (by kernel_rfl) (by kernel_rfl) ?_
      repeat (go_big_quiet_step (exact calls_later (eqIntS_c _ _ _ _ _ _ (HR.out.ext (Later.ext _)) (HR'.out.ext (Later.ext _)))))
      refine wpQuiet_nil ?_
      rintro _ ⟨⟨w2, hx⟩, rfl⟩
      have hb2 := hb.trans hx
      clear hd0 hd0'
      go_wp2
      go_roundw
      case rel => exact ⟨k + 1, by omega, by go_num, hb2⟩
      case measure => simp [intOf]; omega
    · obtain rfl : k = l.length := by omega
      go_wp2
      go_ret
      exact ⟨rfl, hb⟩

set_option maxHeartbeats 400000 in
theorem eqSignal_c (w : World) (x : Sig) (h : tSig.R w x [.string x.name, .int .i64 x.kind]) (h' : tSig.R w x [.string x.name, .int .i64 x.kind]) :
    Calls Try.prog 100 #[.agg #[.string x.name, .int .i64 x.kind], .agg #[.string x.name, .int .i64 x.kind]] w fun e w' => e = .returned (.bool true) ∧ Ext w w' := by
  obtain ⟨h_name, h_kind⟩ := R_Sig.1 h
  have H_name := Lib.hid h_name
  have H_kind := Lib.hid h_kind
  clear h h_name h_kind
  obtain ⟨h_name', h_kind'⟩ := R_Sig.1 h'
  have H_name' := Lib.hid h_name'
  have H_kind' := Lib.hid h_kind'
  clear h' h_name' h_kind'
  go_enter Try.func100, Try.ntmps100
  go_wp2
  go_ret
  exact ⟨rfl, (by repeat (first | with_reducible exact Ext.refl _ | with_reducible exact Ext.refl _ | refine Ext.alloc ?_ _))⟩

set_option maxHeartbeats 400000 in
theorem eqSignalS_c (w : World) (a a' : Option Addr) (c c' : Nat) (l : List Sig) (h : (tSl tSig).R w l [.slice a l.length c]) (h' : (tSl tSig).R w l [.slice a' l.length c']) :
    Calls Try.prog 46 #[.slice a l.length c, .slice a' l.length c'] w fun e w' => e = .returned (.bool true) ∧ Ext w w' := by
  have hn := R_len h
  obtain ⟨_, _, _, _, hs⟩ := R_sl.1 h
  obtain ⟨_, _, _, _, hs'⟩ := R_sl.1 h'
  clear h h'
  go_enter Try.func46, Try.ntmps46
  go_wp2
  go_loopw [5] (fun i wr => ∃ k : Nat, k ≤ l.length ∧ i = .int .i64 k ∧ Ext w wr) (fun i _ => l.length - (intOf i).toNat)
  case atStart => exact ⟨0, Nat.zero_le _, rfl, Ext.refl _⟩
  case round =>
    obtain ⟨k, hk, rfl, hb⟩ := hrel
    by_cases hlt : k < l.length
    · obtain ⟨b, o, rfl, hbs, hel⟩ := hs.get (by omega)
      obtain ⟨b', o', rfl, hbs', hel'⟩ := hs'.get (by omega)
      obtain ⟨_, hc0, hc1, hR⟩ := at_Sig ((hel k hlt).ext hb hbs)
      simp only [show tSig.n = 2 from rfl] at hc0 hc1
      have hd0 := Later.cell hc0
      have hd1 := Later.cell hc1
      obtain ⟨_, hc0', hc1', hR'⟩ := at_Sig ((hel' k hlt).ext hb hbs')
      simp only [show tSig.n = 2 from rfl] at hc0' hc1'
      have hd0' := Later.cell hc0'
      have hd1' := Later.cell hc1'
      clear hel hel' hc0 hc1 hc0' hc1'
      have HR := Lib.hid hR
      have HR' := Lib.hid hR'
      clear hR hR'
      go_wp2
      refine wp_region_later (by kernel_rfl) (by kernel_rfl) ?_
      repeat (go_big_quiet_step (exact calls_later (eqSignal_c _ _ (HR.out.ext (Later.ext _)) (HR'.out.ext (Later.ext _)))))
      refine wpQuiet_nil ?_
      rintro _ ⟨⟨w2, hx⟩, rfl⟩
      have hb2 := hb.trans hx
      clear hd0 hd1 hd0' hd1'
      go_wp2
      go_roundw
      case rel => exact ⟨k + 1, by omega, by go_num, hb2⟩
      case measure => simp [intOf]; omega
    · obtain rfl : k = l.length := by omega
      go_wp2
      go_ret
      exact ⟨rfl, hb⟩

set_option maxHeartbeats 400000 in
theorem eqLabel_c (w : World) (x : Lab) (h : tLab.R w x [.int .i64 x.sig, .bool x.up]) (h' : tLab.R w x [.int .i64 x.sig, .bool x.up]) :
    Calls Try.prog 66 #[.agg #[.int .i64 x.sig, .bool x.up], .agg #[.int .i64 x.sig, .bool x.up]] w fun e w' => e = .returned (.bool true) ∧ Ext w w' := by
  obtain ⟨h_sig, h_up⟩ := R_Lab.1 h
  have H_sig := Lib.hid h_sig
  have H_up := Lib.hid h_up
  clear h h_sig h_up
  obtain ⟨h_sig', h_up'⟩ := R_Lab.1 h'
  have H_sig' := Lib.hid h_sig'
  have H_up' := Lib.hid h_up'
  clear h' h_sig' h_up'
  go_enter Try.func66, Try.ntmps66
  go_wp2
  go_ret
  exact ⟨rfl, (by repeat (first | with_reducible exact Ext.refl _ | with_reducible exact Ext.refl _ | refine Ext.alloc ?_ _))⟩

set_option maxHeartbeats 400000 in
theorem eqLabelS_c (w : World) (a a' : Option Addr) (c c' : Nat) (l : List Lab) (h : (tSl tLab).R w l [.slice a l.length c]) (h' : (tSl tLab).R w l [.slice a' l.length c']) :
    Calls Try.prog 20 #[.slice a l.length c, .slice a' l.length c'] w fun e w' => e = .returned (.bool true) ∧ Ext w w' := by
  have hn := R_len h
  obtain ⟨_, _, _, _, hs⟩ := R_sl.1 h
  obtain ⟨_, _, _, _, hs'⟩ := R_sl.1 h'
  clear h h'
  go_enter Try.func20, Try.ntmps20
  go_wp2
  go_loopw [5] (fun i wr => ∃ k : Nat, k ≤ l.length ∧ i = .int .i64 k ∧ Ext w wr) (fun i _ => l.length - (intOf i).toNat)
  case atStart => exact ⟨0, Nat.zero_le _, rfl, Ext.refl _⟩
  case round =>
    obtain ⟨k, hk, rfl, hb⟩ := hrel
    by_cases hlt : k < l.length
    · obtain ⟨b, o, rfl, hbs, hel⟩ := hs.get (by omega)
      obtain ⟨b', o', rfl, hbs', hel'⟩ := hs'.get (by omega)
      obtain ⟨_, hc0, hc1, hR⟩ := at_Lab ((hel k hlt).ext hb hbs)
      simp only [show tLab.n = 2 from rfl] at hc0 hc1
      have hd0 := Later.cell hc0
      have hd1 := Later.cell hc1
      obtain ⟨_, hc0', hc1', hR'⟩ := at_Lab ((hel' k hlt).ext hb hbs')
      simp only [show tLab.n = 2 from rfl] at hc0' hc1'
      have hd0' := Later.cell hc0'
      have hd1' := Later.cell hc1'
      clear hel hel' hc0 hc1 hc0' hc1'
      have HR := Lib.hid hR
      have HR' := Lib.hid hR'
      clear hR hR'
      go_wp2
      refine wp_region_later (by kernel_rfl) (by kernel_rfl) ?_
      repeat (go_big_quiet_step (exact calls_later (eqLabel_c _ _ (HR.out.ext (Later.ext _)) (HR'.out.ext (Later.ext _)))))
      refine wpQuiet_nil ?_
      rintro _ ⟨⟨w2, hx⟩, rfl⟩
      have hb2 := hb.trans hx
      clear hd0 hd1 hd0' hd1'
      go_wp2
      go_roundw
      case rel => exact ⟨k + 1, by omega, by go_num, hb2⟩
      case measure => simp [intOf]; omega
    · obtain rfl : k = l.length := by omega
      go_wp2
      go_ret
      exact ⟨rfl, hb⟩

set_option maxHeartbeats 400000 in
theorem eqArc_c (w : World) (x : ArcD) (h : tArcD.R w x [.int .i64 x.src, .int .i64 x.sig, .bool x.up, .int .i64 x.dst]) (h' : tArcD.R w x [.int .i64 x.src, .int .i64 x.sig, .bool x.up, .int .i64 x.dst]) :
    Calls Try.prog 101 #[.agg #[.int .i64 x.src, .int .i64 x.sig, .bool x.up, .int .i64 x.dst], .agg #[.int .i64 x.src, .int .i64 x.sig, .bool x.up, .int .i64 x.dst]] w fun e w' => e = .returned (.bool true) ∧ Ext w w' := by
  obtain ⟨h_src, h_sig, h_up, h_dst⟩ := R_ArcD.1 h
  have H_src := Lib.hid h_src
  have H_sig := Lib.hid h_sig
  have H_up := Lib.hid h_up
  have H_dst := Lib.hid h_dst
  clear h h_src h_sig h_up h_dst
  obtain ⟨h_src', h_sig', h_up', h_dst'⟩ := R_ArcD.1 h'
  have H_src' := Lib.hid h_src'
  have H_sig' := Lib.hid h_sig'
  have H_up' := Lib.hid h_up'
  have H_dst' := Lib.hid h_dst'
  clear h' h_src' h_sig' h_up' h_dst'
  go_enter Try.func101, Try.ntmps101
  go_wp2
  go_ret
  exact ⟨rfl, (by repeat (first | with_reducible exact Ext.refl _ | with_reducible exact Ext.refl _ | refine Ext.alloc ?_ _))⟩

set_option maxHeartbeats 400000 in
theorem eqArcS_c (w : World) (a a' : Option Addr) (c c' : Nat) (l : List ArcD) (h : (tSl tArcD).R w l [.slice a l.length c]) (h' : (tSl tArcD).R w l [.slice a' l.length c']) :
    Calls Try.prog 48 #[.slice a l.length c, .slice a' l.length c'] w fun e w' => e = .returned (.bool true) ∧ Ext w w' := by
  have hn := R_len h
  obtain ⟨_, _, _, _, hs⟩ := R_sl.1 h
  obtain ⟨_, _, _, _, hs'⟩ := R_sl.1 h'
  clear h h'
  go_enter Try.func48, Try.ntmps48
  go_wp2
  go_loopw [5] (fun i wr => ∃ k : Nat, k ≤ l.length ∧ i = .int .i64 k ∧ Ext w wr) (fun i _ => l.length - (intOf i).toNat)
  case atStart => exact ⟨0, Nat.zero_le _, rfl, Ext.refl _⟩
  case round =>
    obtain ⟨k, hk, rfl, hb⟩ := hrel
    by_cases hlt : k < l.length
    · obtain ⟨b, o, rfl, hbs, hel⟩ := hs.get (by omega)
      obtain ⟨b', o', rfl, hbs', hel'⟩ := hs'.get (by omega)
      obtain ⟨_, hc0, hc1, hc2, hc3, hR⟩ := at_ArcD ((hel k hlt).ext hb hbs)
      simp only [show tArcD.n = 4 from rfl] at hc0 hc1 hc2 hc3
      have hd0 := Later.cell hc0
      have hd1 := Later.cell hc1
      have hd2 := Later.cell hc2
      have hd3 := Later.cell hc3
      obtain ⟨_, hc0', hc1', hc2', hc3', hR'⟩ := at_ArcD ((hel' k hlt).ext hb hbs')
      simp only [show tArcD.n = 4 from rfl] at hc0' hc1' hc2' hc3'
      have hd0' := Later.cell hc0'
      have hd1' := Later.cell hc1'
      have hd2' := Later.cell hc2'
      have hd3' := Later.cell hc3'
      clear hel hel' hc0 hc1 hc2 hc3 hc0' hc1' hc2' hc3'
      have HR := Lib.hid hR
      have HR' := Lib.hid hR'
      clear hR hR'
      go_wp2
      refine wp_region_later (by kernel_rfl) (by kernel_rfl) ?_
      repeat (go_big_quiet_step (exact calls_later (eqArc_c _ _ (HR.out.ext (Later.ext _)) (HR'.out.ext (Later.ext _)))))
      refine wpQuiet_nil ?_
      rintro _ ⟨⟨w2, hx⟩, rfl⟩
      have hb2 := hb.trans hx
      clear hd0 hd1 hd2 hd3 hd0' hd1' hd2' hd3'
      go_wp2
      go_roundw
      case rel => exact ⟨k + 1, by omega, by go_num, hb2⟩
      case measure => simp [intOf]; omega
    · obtain rfl : k = l.length := by omega
      go_wp2
      go_ret
      exact ⟨rfl, hb⟩

set_option maxHeartbeats 400000 in
theorem eqStateGraph_c (w : World) (a0 : Option Addr) (c0 : Nat) (a1 : Option Addr) (c1 : Nat) (a2 : Option Addr) (c2 : Nat) (a0' : Option Addr) (c0' : Nat) (a1' : Option Addr) (c1' : Nat) (a2' : Option Addr) (c2' : Nat) (x : SGraph) (h : tSGraph.R w x [.slice a0 x.signals.length c0, .slice a1 x.codes.length c1, .slice a2 x.arcs.length c2]) (h' : tSGraph.R w x [.slice a0' x.signals.length c0', .slice a1' x.codes.length c1', .slice a2' x.arcs.length c2']) :
    Calls Try.prog 13 #[.agg #[.slice a0 x.signals.length c0, .slice a1 x.codes.length c1, .slice a2 x.arcs.length c2], .agg #[.slice a0' x.signals.length c0', .slice a1' x.codes.length c1', .slice a2' x.arcs.length c2']] w fun e w' => e = .returned (.bool true) ∧ Ext w w' := by
  obtain ⟨h_signals, h_codes, h_arcs⟩ := R_SGraph.1 h
  have H_signals := Lib.hid h_signals
  have H_codes := Lib.hid h_codes
  have H_arcs := Lib.hid h_arcs
  clear h h_signals h_codes h_arcs
  obtain ⟨h_signals', h_codes', h_arcs'⟩ := R_SGraph.1 h'
  have H_signals' := Lib.hid h_signals'
  have H_codes' := Lib.hid h_codes'
  have H_arcs' := Lib.hid h_arcs'
  clear h' h_signals' h_codes' h_arcs'
  go_enter Try.func13, Try.ntmps13
  go_wp2_with fail
  refine (eqSignalS_c _ _ _ _ _ _ (Ty.R.ext H_signals.out (by repeat (first | with_reducible exact Ext.refl _ | with_reducible exact Ext.refl _ | refine Ext.alloc ?_ _))) (Ty.R.ext H_signals'.out (by repeat (first | with_reducible exact Ext.refl _ | with_reducible exact Ext.refl _ | refine Ext.alloc ?_ _)))).mono ?_
  rintro e w1 ⟨rfl, hx0⟩
  have hE1 : Ext w w1 := Ext.trans (by repeat (first | with_reducible exact Ext.refl _ | with_reducible exact Ext.refl _ | refine Ext.alloc ?_ _)) hx0
  have hB0 := hx0
  obtain ⟨hk0, hq0⟩ := hB0.cells
  simp only [World.size_alloc] at hk0 hq0
  go_wp2_with fail
  refine (eqStringS_c _ _ _ _ _ _ (Ty.R.ext H_codes.out (by repeat (first | with_reducible exact hE1 | with_reducible exact Ext.refl _ | refine Ext.alloc ?_ _))) (Ty.R.ext H_codes'.out (by repeat (first | with_reducible exact hE1 | with_reducible exact Ext.refl _ | refine Ext.alloc ?_ _)))).mono ?_
  rintro e w2 ⟨rfl, hx1⟩
  have hE2 : Ext w w2 := Ext.trans (by repeat (first | with_reducible exact hE1 | with_reducible exact Ext.refl _ | refine Ext.alloc ?_ _)) hx1
  have hB1 := hB0.trans hx1
  obtain ⟨hk1, hq1⟩ := hB1.cells
  simp only [World.size_alloc] at hk1 hq1
  go_wp2_with fail
  refine (eqArcS_c _ _ _ _ _ _ (Ty.R.ext H_arcs.out (by repeat (first | with_reducible exact hE2 | with_reducible exact Ext.refl _ | refine Ext.alloc ?_ _))) (Ty.R.ext H_arcs'.out (by repeat (first | with_reducible exact hE2 | with_reducible exact Ext.refl _ | refine Ext.alloc ?_ _)))).mono ?_
  rintro e w3 ⟨rfl, hx2⟩
  have hE3 : Ext w w3 := Ext.trans (by repeat (first | with_reducible exact hE2 | with_reducible exact Ext.refl _ | refine Ext.alloc ?_ _)) hx2
  have hB2 := hB1.trans hx2
  obtain ⟨hk2, hq2⟩ := hB2.cells
  simp only [World.size_alloc] at hk2 hq2
  go_wp2
  go_ret
  exact ⟨rfl, (by repeat (first | with_reducible exact hE3 | with_reducible exact Ext.refl _ | refine Ext.alloc ?_ _))⟩
end Go.Proofs.Ytcmedjlpaondjaa
