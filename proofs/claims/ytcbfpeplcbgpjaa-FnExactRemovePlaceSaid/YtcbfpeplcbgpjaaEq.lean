/- The laws' own helpers: eq, at two values that read as one and the same. -/
import Derived.Test.YtcbfpeplcbgpjaaTo
set_option linter.unusedSimpArgs false
set_option linter.unusedVariables false
namespace Go.Proofs.Ytcbfpeplcbgpjaa
open Go.ChangeShapes Go.WideShapes Go.ChangeAt Go.RowKit

set_option maxHeartbeats 400000 in
theorem eqIntS_c (w : World) (a a' : Option Addr) (c c' : Nat) (l : List Int) (h : (tSl tInt).R w l [.slice a l.length c]) (h' : (tSl tInt).R w l [.slice a' l.length c']) :
    Calls Try.prog 41 #[.slice a l.length c, .slice a' l.length c'] w fun e w' => e = .returned (.bool true) ∧ Ext w w' := by
  have hn := R_len h
  obtain ⟨_, _, _, _, hs⟩ := R_sl.1 h
  obtain ⟨_, _, _, _, hs'⟩ := R_sl.1 h'
  clear h h'
  go_enter Try.func41, Try.ntmps41
  go_wp2
  go_loopw [5] (fun i wr => ∃ k : Nat, k ≤ l.length ∧ i = .int .i64 k ∧ Ext w wr) (fun i _ => l.length - (intOf i).toNat)
  case atStart => exact ⟨0, Nat.zero_le _, rfl, Ext.refl _⟩
  case round =>
    obtain ⟨k, hk, rfl, hb⟩ := hrel
    by_cases hlt : k < l.length
    · obtain ⟨b, o, rfl, hbs, hel⟩ := hs.get (by omega)
      obtain ⟨b', o', rfl, hbs', hel'⟩ := hs'.get (by omega)
      have hc := (at_int ((hel k hlt).ext hb hbs)).1
      have hc' := (at_int ((hel' k hlt).ext hb hbs')).1
      simp only [tInt, Nat.mul_one] at hc hc'
      clear hel hel'
      have hz : (nth l k != nth l k) = false := by simp
      go_wp2
      go_quiet (fail)
      go_wp2
      go_roundw
      case rel => exact ⟨k + 1, by omega, by go_num, hb.drewN _⟩
      case measure => simp [intOf]; omega
    · obtain rfl : k = l.length := by omega
      go_wp2
      go_ret
      exact ⟨rfl, hb⟩

set_option maxHeartbeats 400000 in
theorem eqStringS_c (w : World) (a a' : Option Addr) (c c' : Nat) (l : List ByteArray) (h : (tSl tStr).R w l [.slice a l.length c]) (h' : (tSl tStr).R w l [.slice a' l.length c']) :
    Calls Try.prog 65 #[.slice a l.length c, .slice a' l.length c'] w fun e w' => e = .returned (.bool true) ∧ Ext w w' := by
  have hn := R_len h
  obtain ⟨_, _, _, _, hs⟩ := R_sl.1 h
  obtain ⟨_, _, _, _, hs'⟩ := R_sl.1 h'
  clear h h'
  go_enter Try.func65, Try.ntmps65
  go_wp2
  go_loopw [5] (fun i wr => ∃ k : Nat, k ≤ l.length ∧ i = .int .i64 k ∧ Ext w wr) (fun i _ => l.length - (intOf i).toNat)
  case atStart => exact ⟨0, Nat.zero_le _, rfl, Ext.refl _⟩
  case round =>
    obtain ⟨k, hk, rfl, hb⟩ := hrel
    by_cases hlt : k < l.length
    · obtain ⟨b, o, rfl, hbs, hel⟩ := hs.get (by omega)
      obtain ⟨b', o', rfl, hbs', hel'⟩ := hs'.get (by omega)
      have hc := (at_str ((hel k hlt).ext hb hbs)).1
      have hc' := (at_str ((hel' k hlt).ext hb hbs')).1
      simp only [tStr, Nat.mul_one] at hc hc'
      clear hel hel'
      go_wp2
      go_quiet (fail)
      go_wp2
      go_roundw
      case rel => exact ⟨k + 1, by omega, by go_num, hb.drewN _⟩
      case measure => simp [intOf]; omega
    · obtain rfl : k = l.length := by omega
      go_wp2
      go_ret
      exact ⟨rfl, hb⟩

set_option maxHeartbeats 400000 in
theorem eqIntSS_c (w : World) (a a' : Option Addr) (c c' : Nat) (l : List (List Int)) (h : (tSl (tSl tInt)).R w l [.slice a l.length c]) (h' : (tSl (tSl tInt)).R w l [.slice a' l.length c']) :
    Calls Try.prog 18 #[.slice a l.length c, .slice a' l.length c'] w fun e w' => e = .returned (.bool true) ∧ Ext w w' := by
  have hn := R_len h
  obtain ⟨_, _, _, _, hs⟩ := R_sl.1 h
  obtain ⟨_, _, _, _, hs'⟩ := R_sl.1 h'
  clear h h'
  go_enter Try.func18, Try.ntmps18
  go_wp2
  go_loopw [5] (fun i wr => ∃ k : Nat, k ≤ l.length ∧ i = .int .i64 k ∧ Ext w wr) (fun i _ => l.length - (intOf i).toNat)
  case atStart => exact ⟨0, Nat.zero_le _, rfl, Ext.refl _⟩
  case round =>
    obtain ⟨k, hk, rfl, hb⟩ := hrel
    by_cases hlt : k < l.length
    · obtain ⟨b, o, rfl, hbs, hel⟩ := hs.get (by omega)
      obtain ⟨b', o', rfl, hbs', hel'⟩ := hs'.get (by omega)
      obtain ⟨a0, c0, hc0, hu1, hu2, hu3, hu4⟩ := at_sl ((hel k hlt).ext hb hbs)
      have hR := R_sl.2 ⟨rfl, hu1, hu2, hu3, hu4⟩
      simp only [tSl, Nat.mul_one] at hc0
      clear hu1 hu2 hu3 hu4
      have hd0 := Later.cell hc0
      obtain ⟨a0', c0', hc0', hu1', hu2', hu3', hu4'⟩ := at_sl ((hel' k hlt).ext hb hbs')
      have hR' := R_sl.2 ⟨rfl, hu1', hu2', hu3', hu4'⟩
      simp only [tSl, Nat.mul_one] at hc0'
      clear hu1' hu2' hu3' hu4'
      have hd0' := Later.cell hc0'
      clear hel hel' hc0 hc0'
      have HR := Lib.hid hR
      have HR' := Lib.hid hR'
      clear hR hR'
      go_wp2
      refine wp_region_later (by kernel_rfl) (by kernel_rfl) ?_
      repeat (go_big_quiet_step (exact calls_later (eqIntS_c _ _ _ _ _ _ (HR.out.ext (Later.ext _)) (HR'.out.ext (Later.ext _)))))
      refine wpQuiet_nil ?_
      rintro _ ⟨⟨w2, hx⟩, rfl⟩
      have hb2 := hb.trans hx
      clear hd0 hd0'
      go_wp2
      go_roundw
      case rel => exact ⟨k + 1, by omega, by go_num, hb2⟩
      case measure => simp [intOf]; omega
    · obtain rfl : k = l.length := by omega
      go_wp2
      go_ret
      exact ⟨rfl, hb⟩

set_option maxHeartbeats 400000 in
theorem eqTransition_c (w : World) (a0 : Option Addr) (c0 : Nat) (a1 : Option Addr) (c1 : Nat) (a0' : Option Addr) (c0' : Nat) (a1' : Option Addr) (c1' : Nat) (x : Tr) (h : tTr.R w x [.slice a0 x.pre.length c0, .slice a1 x.post.length c1]) (h' : tTr.R w x [.slice a0' x.pre.length c0', .slice a1' x.post.length c1']) :
    Calls Try.prog 127 #[.agg #[.slice a0 x.pre.length c0, .slice a1 x.post.length c1], .agg #[.slice a0' x.pre.length c0', .slice a1' x.post.length c1']] w fun e w' => e = .returned (.bool true) ∧ Ext w w' := by
  obtain ⟨h_pre, h_post⟩ := R_Tr.1 h
  have H_pre := Lib.hid h_pre
  have H_post := Lib.hid h_post
  clear h h_pre h_post
  obtain ⟨h_pre', h_post'⟩ := R_Tr.1 h'
  have H_pre' := Lib.hid h_pre'
  have H_post' := Lib.hid h_post'
  clear h' h_pre' h_post'
  go_enter Try.func127, Try.ntmps127
  go_wp2_with fail
  refine (eqIntS_c _ _ _ _ _ _ (Ty.R.ext H_pre.out (by repeat (first | with_reducible exact Ext.refl _ | with_reducible exact Ext.refl _ | refine Ext.alloc ?_ _))) (Ty.R.ext H_pre'.out (by repeat (first | with_reducible exact Ext.refl _ | with_reducible exact Ext.refl _ | refine Ext.alloc ?_ _)))).mono ?_
  rintro e w1 ⟨rfl, hx0⟩
  have hE1 : Ext w w1 := Ext.trans (by repeat (first | with_reducible exact Ext.refl _ | with_reducible exact Ext.refl _ | refine Ext.alloc ?_ _)) hx0
  have hB0 := hx0
  obtain ⟨hk0, hq0⟩ := hB0.cells
  simp only [World.size_alloc] at hk0 hq0
  go_wp2_with fail
  refine (eqIntS_c _ _ _ _ _ _ (Ty.R.ext H_post.out (by repeat (first | with_reducible exact hE1 | with_reducible exact Ext.refl _ | refine Ext.alloc ?_ _))) (Ty.R.ext H_post'.out (by repeat (first | with_reducible exact hE1 | with_reducible exact Ext.refl _ | refine Ext.alloc ?_ _)))).mono ?_
  rintro e w2 ⟨rfl, hx1⟩
  have hE2 : Ext w w2 := Ext.trans (by repeat (first | with_reducible exact hE1 | with_reducible exact Ext.refl _ | refine Ext.alloc ?_ _)) hx1
  have hB1 := hB0.trans hx1
  obtain ⟨hk1, hq1⟩ := hB1.cells
  simp only [World.size_alloc] at hk1 hq1
  go_wp2
  go_ret
  exact ⟨rfl, (by repeat (first | with_reducible exact hE2 | with_reducible exact Ext.refl _ | refine Ext.alloc ?_ _))⟩

set_option maxHeartbeats 400000 in
theorem eqTransitionS_c (w : World) (a a' : Option Addr) (c c' : Nat) (l : List Tr) (h : (tSl tTr).R w l [.slice a l.length c]) (h' : (tSl tTr).R w l [.slice a' l.length c']) :
    Calls Try.prog 51 #[.slice a l.length c, .slice a' l.length c'] w fun e w' => e = .returned (.bool true) ∧ Ext w w' := by
  have hn := R_len h
  obtain ⟨_, _, _, _, hs⟩ := R_sl.1 h
  obtain ⟨_, _, _, _, hs'⟩ := R_sl.1 h'
  clear h h'
  go_enter Try.func51, Try.ntmps51
  go_wp2
  go_loopw [5] (fun i wr => ∃ k : Nat, k ≤ l.length ∧ i = .int .i64 k ∧ Ext w wr) (fun i _ => l.length - (intOf i).toNat)
  case atStart => exact ⟨0, Nat.zero_le _, rfl, Ext.refl _⟩
  case round =>
    obtain ⟨k, hk, rfl, hb⟩ := hrel
    by_cases hlt : k < l.length
    · obtain ⟨b, o, rfl, hbs, hel⟩ := hs.get (by omega)
      obtain ⟨b', o', rfl, hbs', hel'⟩ := hs'.get (by omega)
      obtain ⟨a0, c0, a1, c1, hc0, hc1, hR⟩ := at_Tr ((hel k hlt).ext hb hbs)
      simp only [show tTr.n = 2 from rfl] at hc0 hc1
      have hd0 := Later.cell hc0
      have hd1 := Later.cell hc1
      obtain ⟨a0', c0', a1', c1', hc0', hc1', hR'⟩ := at_Tr ((hel' k hlt).ext hb hbs')
      simp only [show tTr.n = 2 from rfl] at hc0' hc1'
      have hd0' := Later.cell hc0'
      have hd1' := Later.cell hc1'
      clear hel hel' hc0 hc1 hc0' hc1'
      have HR := Lib.hid hR
      have HR' := Lib.hid hR'
      clear hR hR'
      go_wp2
      refine wp_region_later (by kernel_rfl) (by kernel_rfl) ?_
      repeat (go_big_quiet_step (exact calls_later (eqTransition_c _ _ _ _ _ _ _ _ _ _ (HR.out.ext (Later.ext _)) (HR'.out.ext (Later.ext _)))))
      refine wpQuiet_nil ?_
      rintro _ ⟨⟨w2, hx⟩, rfl⟩
      have hb2 := hb.trans hx
      clear hd0 hd1 hd0' hd1'
      go_wp2
      go_roundw
      case rel => exact ⟨k + 1, by omega, by go_num, hb2⟩
      case measure => simp [intOf]; omega
    · obtain rfl : k = l.length := by omega
      go_wp2
      go_ret
      exact ⟨rfl, hb⟩

set_option maxHeartbeats 400000 in
theorem eqSignal_c (w : World) (x : Sig) (h : tSig.R w x [.string x.name, .int .i64 x.kind]) (h' : tSig.R w x [.string x.name, .int .i64 x.kind]) :
    Calls Try.prog 141 #[.agg #[.string x.name, .int .i64 x.kind], .agg #[.string x.name, .int .i64 x.kind]] w fun e w' => e = .returned (.bool true) ∧ Ext w w' := by
  obtain ⟨h_name, h_kind⟩ := R_Sig.1 h
  have H_name := Lib.hid h_name
  have H_kind := Lib.hid h_kind
  clear h h_name h_kind
  obtain ⟨h_name', h_kind'⟩ := R_Sig.1 h'
  have H_name' := Lib.hid h_name'
  have H_kind' := Lib.hid h_kind'
  clear h' h_name' h_kind'
  go_enter Try.func141, Try.ntmps141
  go_wp2
  go_ret
  exact ⟨rfl, (by repeat (first | with_reducible exact Ext.refl _ | with_reducible exact Ext.refl _ | refine Ext.alloc ?_ _))⟩

set_option maxHeartbeats 400000 in
theorem eqSignalS_c (w : World) (a a' : Option Addr) (c c' : Nat) (l : List Sig) (h : (tSl tSig).R w l [.slice a l.length c]) (h' : (tSl tSig).R w l [.slice a' l.length c']) :
    Calls Try.prog 64 #[.slice a l.length c, .slice a' l.length c'] w fun e w' => e = .returned (.bool true) ∧ Ext w w' := by
  have hn := R_len h
  obtain ⟨_, _, _, _, hs⟩ := R_sl.1 h
  obtain ⟨_, _, _, _, hs'⟩ := R_sl.1 h'
  clear h h'
  go_enter Try.func64, Try.ntmps64
  go_wp2
  go_loopw [5] (fun i wr => ∃ k : Nat, k ≤ l.length ∧ i = .int .i64 k ∧ Ext w wr) (fun i _ => l.length - (intOf i).toNat)
  case atStart => exact ⟨0, Nat.zero_le _, rfl, Ext.refl _⟩
  case round =>
    obtain ⟨k, hk, rfl, hb⟩ := hrel
    by_cases hlt : k < l.length
    · obtain ⟨b, o, rfl, hbs, hel⟩ := hs.get (by omega)
      obtain ⟨b', o', rfl, hbs', hel'⟩ := hs'.get (by omega)
      obtain ⟨_, hc0, hc1, hR⟩ := at_Sig ((hel k hlt).ext hb hbs)
      simp only [show tSig.n = 2 from rfl] at hc0 hc1
      have hd0 := Later.cell hc0
      have hd1 := Later.cell hc1
      obtain ⟨_, hc0', hc1', hR'⟩ := at_Sig ((hel' k hlt).ext hb hbs')
      simp only [show tSig.n = 2 from rfl] at hc0' hc1'
      have hd0' := Later.cell hc0'
      have hd1' := Later.cell hc1'
      clear hel hel' hc0 hc1 hc0' hc1'
      have HR := Lib.hid hR
      have HR' := Lib.hid hR'
      clear hR hR'
      go_wp2
      refine wp_region_later (by kernel_rfl) (by kernel_rfl) ?_
      repeat (go_big_quiet_step (exact calls_later (eqSignal_c _ _ (HR.out.ext (Later.ext _)) (HR'.out.ext (Later.ext _)))))
      refine wpQuiet_nil ?_
      rintro _ ⟨⟨w2, hx⟩, rfl⟩
      have hb2 := hb.trans hx
      clear hd0 hd1 hd0' hd1'
      go_wp2
      go_roundw
      case rel => exact ⟨k + 1, by omega, by go_num, hb2⟩
      case measure => simp [intOf]; omega
    · obtain rfl : k = l.length := by omega
      go_wp2
      go_ret
      exact ⟨rfl, hb⟩

set_option maxHeartbeats 400000 in
theorem eqLabel_c (w : World) (x : Lab) (h : tLab.R w x [.int .i64 x.sig, .bool x.up]) (h' : tLab.R w x [.int .i64 x.sig, .bool x.up]) :
    Calls Try.prog 159 #[.agg #[.int .i64 x.sig, .bool x.up], .agg #[.int .i64 x.sig, .bool x.up]] w fun e w' => e = .returned (.bool true) ∧ Ext w w' := by
  obtain ⟨h_sig, h_up⟩ := R_Lab.1 h
  have H_sig := Lib.hid h_sig
  have H_up := Lib.hid h_up
  clear h h_sig h_up
  obtain ⟨h_sig', h_up'⟩ := R_Lab.1 h'
  have H_sig' := Lib.hid h_sig'
  have H_up' := Lib.hid h_up'
  clear h' h_sig' h_up'
  go_enter Try.func159, Try.ntmps159
  go_wp2
  go_ret
  exact ⟨rfl, (by repeat (first | with_reducible exact Ext.refl _ | with_reducible exact Ext.refl _ | refine Ext.alloc ?_ _))⟩

set_option maxHeartbeats 400000 in
theorem eqLabelS_c (w : World) (a a' : Option Addr) (c c' : Nat) (l : List Lab) (h : (tSl tLab).R w l [.slice a l.length c]) (h' : (tSl tLab).R w l [.slice a' l.length c']) :
    Calls Try.prog 92 #[.slice a l.length c, .slice a' l.length c'] w fun e w' => e = .returned (.bool true) ∧ Ext w w' := by
  have hn := R_len h
  obtain ⟨_, _, _, _, hs⟩ := R_sl.1 h
  obtain ⟨_, _, _, _, hs'⟩ := R_sl.1 h'
  clear h h'
  go_enter Try.func92, Try.ntmps92
  go_wp2
  go_loopw [5] (fun i wr => ∃ k : Nat, k ≤ l.length ∧ i = .int .i64 k ∧ Ext w wr) (fun i _ => l.length - (intOf i).toNat)
  case atStart => exact ⟨0, Nat.zero_le _, rfl, Ext.refl _⟩
  case round =>
    obtain ⟨k, hk, rfl, hb⟩ := hrel
    by_cases hlt : k < l.length
    · obtain ⟨b, o, rfl, hbs, hel⟩ := hs.get (by omega)
      obtain ⟨b', o', rfl, hbs', hel'⟩ := hs'.get (by omega)
      obtain ⟨_, hc0, hc1, hR⟩ := at_Lab ((hel k hlt).ext hb hbs)
      simp only [show tLab.n = 2 from rfl] at hc0 hc1
      have hd0 := Later.cell hc0
      have hd1 := Later.cell hc1
      obtain ⟨_, hc0', hc1', hR'⟩ := at_Lab ((hel' k hlt).ext hb hbs')
      simp only [show tLab.n = 2 from rfl] at hc0' hc1'
      have hd0' := Later.cell hc0'
      have hd1' := Later.cell hc1'
      clear hel hel' hc0 hc1 hc0' hc1'
      have HR := Lib.hid hR
      have HR' := Lib.hid hR'
      clear hR hR'
      go_wp2
      refine wp_region_later (by kernel_rfl) (by kernel_rfl) ?_
      repeat (go_big_quiet_step (exact calls_later (eqLabel_c _ _ (HR.out.ext (Later.ext _)) (HR'.out.ext (Later.ext _)))))
      refine wpQuiet_nil ?_
      rintro _ ⟨⟨w2, hx⟩, rfl⟩
      have hb2 := hb.trans hx
      clear hd0 hd1 hd0' hd1'
      go_wp2
      go_roundw
      case rel => exact ⟨k + 1, by omega, by go_num, hb2⟩
      case measure => simp [intOf]; omega
    · obtain rfl : k = l.length := by omega
      go_wp2
      go_ret
      exact ⟨rfl, hb⟩

set_option maxHeartbeats 400000 in
theorem eqArc_c (w : World) (x : ArcD) (h : tArcD.R w x [.int .i64 x.src, .int .i64 x.sig, .bool x.up, .int .i64 x.dst]) (h' : tArcD.R w x [.int .i64 x.src, .int .i64 x.sig, .bool x.up, .int .i64 x.dst]) :
    Calls Try.prog 142 #[.agg #[.int .i64 x.src, .int .i64 x.sig, .bool x.up, .int .i64 x.dst], .agg #[.int .i64 x.src, .int .i64 x.sig, .bool x.up, .int .i64 x.dst]] w fun e w' => e = .returned (.bool true) ∧ Ext w w' := by
  obtain ⟨h_src, h_sig, h_up, h_dst⟩ := R_ArcD.1 h
  have H_src := Lib.hid h_src
  have H_sig := Lib.hid h_sig
  have H_up := Lib.hid h_up
  have H_dst := Lib.hid h_dst
  clear h h_src h_sig h_up h_dst
  obtain ⟨h_src', h_sig', h_up', h_dst'⟩ := R_ArcD.1 h'
  have H_src' := Lib.hid h_src'
  have H_sig' := Lib.hid h_sig'
  have H_up' := Lib.hid h_up'
  have H_dst' := Lib.hid h_dst'
  clear h' h_src' h_sig' h_up' h_dst'
  go_enter Try.func142, Try.ntmps142
  go_wp2
  go_ret
  exact ⟨rfl, (by repeat (first | with_reducible exact Ext.refl _ | with_reducible exact Ext.refl _ | refine Ext.alloc ?_ _))⟩

set_option maxHeartbeats 400000 in
theorem eqArcS_c (w : World) (a a' : Option Addr) (c c' : Nat) (l : List ArcD) (h : (tSl tArcD).R w l [.slice a l.length c]) (h' : (tSl tArcD).R w l [.slice a' l.length c']) :
    Calls Try.prog 66 #[.slice a l.length c, .slice a' l.length c'] w fun e w' => e = .returned (.bool true) ∧ Ext w w' := by
  have hn := R_len h
  obtain ⟨_, _, _, _, hs⟩ := R_sl.1 h
  obtain ⟨_, _, _, _, hs'⟩ := R_sl.1 h'
  clear h h'
  go_enter Try.func66, Try.ntmps66
  go_wp2
  go_loopw [5] (fun i wr => ∃ k : Nat, k ≤ l.length ∧ i = .int .i64 k ∧ Ext w wr) (fun i _ => l.length - (intOf i).toNat)
  case atStart => exact ⟨0, Nat.zero_le _, rfl, Ext.refl _⟩
  case round =>
    obtain ⟨k, hk, rfl, hb⟩ := hrel
    by_cases hlt : k < l.length
    · obtain ⟨b, o, rfl, hbs, hel⟩ := hs.get (by omega)
      obtain ⟨b', o', rfl, hbs', hel'⟩ := hs'.get (by omega)
      obtain ⟨_, hc0, hc1, hc2, hc3, hR⟩ := at_ArcD ((hel k hlt).ext hb hbs)
      simp only [show tArcD.n = 4 from rfl] at hc0 hc1 hc2 hc3
      have hd0 := Later.cell hc0
      have hd1 := Later.cell hc1
      have hd2 := Later.cell hc2
      have hd3 := Later.cell hc3
      obtain ⟨_, hc0', hc1', hc2', hc3', hR'⟩ := at_ArcD ((hel' k hlt).ext hb hbs')
      simp only [show tArcD.n = 4 from rfl] at hc0' hc1' hc2' hc3'
      have hd0' := Later.cell hc0'
      have hd1' := Later.cell hc1'
      have hd2' := Later.cell hc2'
      have hd3' := Later.cell hc3'
      clear hel hel' hc0 hc1 hc2 hc3 hc0' hc1' hc2' hc3'
      have HR := Lib.hid hR
      have HR' := Lib.hid hR'
      clear hR hR'
      go_wp2
      refine wp_region_later (by kernel_rfl) (by kernel_rfl) ?_
      repeat (go_big_quiet_step (exact calls_later (eqArc_c _ _ (HR.out.ext (Later.ext _)) (HR'.out.ext (Later.ext _)))))
      refine wpQuiet_nil ?_
      rintro _ ⟨⟨w2, hx⟩, rfl⟩
      have hb2 := hb.trans hx
      clear hd0 hd1 hd2 hd3 hd0' hd1' hd2' hd3'
      go_wp2
      go_roundw
      case rel => exact ⟨k + 1, by omega, by go_num, hb2⟩
      case measure => simp [intOf]; omega
    · obtain rfl : k = l.length := by omega
      go_wp2
      go_ret
      exact ⟨rfl, hb⟩

set_option maxHeartbeats 400000 in
theorem eqCondition_c (w : World) (x : Cond) (h : tCond.R w x [.int .i64 x.place, .int .i64 x.by_]) (h' : tCond.R w x [.int .i64 x.place, .int .i64 x.by_]) :
    Calls Try.prog 146 #[.agg #[.int .i64 x.place, .int .i64 x.by_], .agg #[.int .i64 x.place, .int .i64 x.by_]] w fun e w' => e = .returned (.bool true) ∧ Ext w w' := by
  obtain ⟨h_place, h_by_⟩ := R_Cond.1 h
  have H_place := Lib.hid h_place
  have H_by_ := Lib.hid h_by_
  clear h h_place h_by_
  obtain ⟨h_place', h_by_'⟩ := R_Cond.1 h'
  have H_place' := Lib.hid h_place'
  have H_by_' := Lib.hid h_by_'
  clear h' h_place' h_by_'
  go_enter Try.func146, Try.ntmps146
  go_wp2
  go_ret
  exact ⟨rfl, (by repeat (first | with_reducible exact Ext.refl _ | with_reducible exact Ext.refl _ | refine Ext.alloc ?_ _))⟩

set_option maxHeartbeats 400000 in
theorem eqConditionS_c (w : World) (a a' : Option Addr) (c c' : Nat) (l : List Cond) (h : (tSl tCond).R w l [.slice a l.length c]) (h' : (tSl tCond).R w l [.slice a' l.length c']) :
    Calls Try.prog 76 #[.slice a l.length c, .slice a' l.length c'] w fun e w' => e = .returned (.bool true) ∧ Ext w w' := by
  have hn := R_len h
  obtain ⟨_, _, _, _, hs⟩ := R_sl.1 h
  obtain ⟨_, _, _, _, hs'⟩ := R_sl.1 h'
  clear h h'
  go_enter Try.func76, Try.ntmps76
  go_wp2
  go_loopw [5] (fun i wr => ∃ k : Nat, k ≤ l.length ∧ i = .int .i64 k ∧ Ext w wr) (fun i _ => l.length - (intOf i).toNat)
  case atStart => exact ⟨0, Nat.zero_le _, rfl, Ext.refl _⟩
  case round =>
    obtain ⟨k, hk, rfl, hb⟩ := hrel
    by_cases hlt : k < l.length
    · obtain ⟨b, o, rfl, hbs, hel⟩ := hs.get (by omega)
      obtain ⟨b', o', rfl, hbs', hel'⟩ := hs'.get (by omega)
      obtain ⟨_, hc0, hc1, hR⟩ := at_Cond ((hel k hlt).ext hb hbs)
      simp only [show tCond.n = 2 from rfl] at hc0 hc1
      have hd0 := Later.cell hc0
      have hd1 := Later.cell hc1
      obtain ⟨_, hc0', hc1', hR'⟩ := at_Cond ((hel' k hlt).ext hb hbs')
      simp only [show tCond.n = 2 from rfl] at hc0' hc1'
      have hd0' := Later.cell hc0'
      have hd1' := Later.cell hc1'
      clear hel hel' hc0 hc1 hc0' hc1'
      have HR := Lib.hid hR
      have HR' := Lib.hid hR'
      clear hR hR'
      go_wp2
      refine wp_region_later (by kernel_rfl) (by kernel_rfl) ?_
      repeat (go_big_quiet_step (exact calls_later (eqCondition_c _ _ (HR.out.ext (Later.ext _)) (HR'.out.ext (Later.ext _)))))
      refine wpQuiet_nil ?_
      rintro _ ⟨⟨w2, hx⟩, rfl⟩
      have hb2 := hb.trans hx
      clear hd0 hd1 hd0' hd1'
      go_wp2
      go_roundw
      case rel => exact ⟨k + 1, by omega, by go_num, hb2⟩
      case measure => simp [intOf]; omega
    · obtain rfl : k = l.length := by omega
      go_wp2
      go_ret
      exact ⟨rfl, hb⟩

set_option maxHeartbeats 400000 in
theorem eqEvent_c (w : World) (a1 : Option Addr) (c1 : Nat) (a1' : Option Addr) (c1' : Nat) (x : Ev) (h : tEv.R w x [.int .i64 x.t, .slice a1 x.pre.length c1]) (h' : tEv.R w x [.int .i64 x.t, .slice a1' x.pre.length c1']) :
    Calls Try.prog 147 #[.agg #[.int .i64 x.t, .slice a1 x.pre.length c1], .agg #[.int .i64 x.t, .slice a1' x.pre.length c1']] w fun e w' => e = .returned (.bool true) ∧ Ext w w' := by
  obtain ⟨h_t, h_pre⟩ := R_Ev.1 h
  have H_t := Lib.hid h_t
  have H_pre := Lib.hid h_pre
  clear h h_t h_pre
  obtain ⟨h_t', h_pre'⟩ := R_Ev.1 h'
  have H_t' := Lib.hid h_t'
  have H_pre' := Lib.hid h_pre'
  clear h' h_t' h_pre'
  go_enter Try.func147, Try.ntmps147
  go_wp2_with fail
  refine (eqIntS_c _ _ _ _ _ _ (Ty.R.ext H_pre.out (by repeat (first | with_reducible exact Ext.refl _ | with_reducible exact Ext.refl _ | refine Ext.alloc ?_ _))) (Ty.R.ext H_pre'.out (by repeat (first | with_reducible exact Ext.refl _ | with_reducible exact Ext.refl _ | refine Ext.alloc ?_ _)))).mono ?_
  rintro e w1 ⟨rfl, hx0⟩
  have hE1 : Ext w w1 := Ext.trans (by repeat (first | with_reducible exact Ext.refl _ | with_reducible exact Ext.refl _ | refine Ext.alloc ?_ _)) hx0
  have hB0 := hx0
  obtain ⟨hk0, hq0⟩ := hB0.cells
  simp only [World.size_alloc] at hk0 hq0
  go_wp2
  go_ret
  exact ⟨rfl, (by repeat (first | with_reducible exact hE1 | with_reducible exact Ext.refl _ | refine Ext.alloc ?_ _))⟩

set_option maxHeartbeats 400000 in
theorem eqEventS_c (w : World) (a a' : Option Addr) (c c' : Nat) (l : List Ev) (h : (tSl tEv).R w l [.slice a l.length c]) (h' : (tSl tEv).R w l [.slice a' l.length c']) :
    Calls Try.prog 77 #[.slice a l.length c, .slice a' l.length c'] w fun e w' => e = .returned (.bool true) ∧ Ext w w' := by
  have hn := R_len h
  obtain ⟨_, _, _, _, hs⟩ := R_sl.1 h
  obtain ⟨_, _, _, _, hs'⟩ := R_sl.1 h'
  clear h h'
  go_enter Try.func77, Try.ntmps77
  go_wp2
  go_loopw [5] (fun i wr => ∃ k : Nat, k ≤ l.length ∧ i = .int .i64 k ∧ Ext w wr) (fun i _ => l.length - (intOf i).toNat)
  case atStart => exact ⟨0, Nat.zero_le _, rfl, Ext.refl _⟩
  case round =>
    obtain ⟨k, hk, rfl, hb⟩ := hrel
    by_cases hlt : k < l.length
    · obtain ⟨b, o, rfl, hbs, hel⟩ := hs.get (by omega)
      obtain ⟨b', o', rfl, hbs', hel'⟩ := hs'.get (by omega)
      obtain ⟨a1, c1, hc0, hc1, hR⟩ := at_Ev ((hel k hlt).ext hb hbs)
      simp only [show tEv.n = 2 from rfl] at hc0 hc1
      have hd0 := Later.cell hc0
      have hd1 := Later.cell hc1
      obtain ⟨a1', c1', hc0', hc1', hR'⟩ := at_Ev ((hel' k hlt).ext hb hbs')
      simp only [show tEv.n = 2 from rfl] at hc0' hc1'
      have hd0' := Later.cell hc0'
      have hd1' := Later.cell hc1'
      clear hel hel' hc0 hc1 hc0' hc1'
      have HR := Lib.hid hR
      have HR' := Lib.hid hR'
      clear hR hR'
      go_wp2
      refine wp_region_later (by kernel_rfl) (by kernel_rfl) ?_
      repeat (go_big_quiet_step (exact calls_later (eqEvent_c _ _ _ _ _ _ (HR.out.ext (Later.ext _)) (HR'.out.ext (Later.ext _)))))
      refine wpQuiet_nil ?_
      rintro _ ⟨⟨w2, hx⟩, rfl⟩
      have hb2 := hb.trans hx
      clear hd0 hd1 hd0' hd1'
      go_wp2
      go_roundw
      case rel => exact ⟨k + 1, by omega, by go_num, hb2⟩
      case measure => simp [intOf]; omega
    · obtain rfl : k = l.length := by omega
      go_wp2
      go_ret
      exact ⟨rfl, hb⟩

set_option maxHeartbeats 400000 in
theorem eqNet_c (w : World) (a1 : Option Addr) (c1 : Nat) (a1' : Option Addr) (c1' : Nat) (x : NetD) (h : tNetD.R w x [.int .i64 x.places, .slice a1 x.trs.length c1]) (h' : tNetD.R w x [.int .i64 x.places, .slice a1' x.trs.length c1']) :
    Calls Try.prog 13 #[.agg #[.int .i64 x.places, .slice a1 x.trs.length c1], .agg #[.int .i64 x.places, .slice a1' x.trs.length c1']] w fun e w' => e = .returned (.bool true) ∧ Ext w w' := by
  obtain ⟨h_places, h_trs⟩ := R_NetD.1 h
  have H_places := Lib.hid h_places
  have H_trs := Lib.hid h_trs
  clear h h_places h_trs
  obtain ⟨h_places', h_trs'⟩ := R_NetD.1 h'
  have H_places' := Lib.hid h_places'
  have H_trs' := Lib.hid h_trs'
  clear h' h_places' h_trs'
  go_enter Try.func13, Try.ntmps13
  go_wp2_with fail
  refine (eqTransitionS_c _ _ _ _ _ _ (Ty.R.ext H_trs.out (by repeat (first | with_reducible exact Ext.refl _ | with_reducible exact Ext.refl _ | refine Ext.alloc ?_ _))) (Ty.R.ext H_trs'.out (by repeat (first | with_reducible exact Ext.refl _ | with_reducible exact Ext.refl _ | refine Ext.alloc ?_ _)))).mono ?_
  rintro e w1 ⟨rfl, hx0⟩
  have hE1 : Ext w w1 := Ext.trans (by repeat (first | with_reducible exact Ext.refl _ | with_reducible exact Ext.refl _ | refine Ext.alloc ?_ _)) hx0
  have hB0 := hx0
  obtain ⟨hk0, hq0⟩ := hB0.cells
  simp only [World.size_alloc] at hk0 hq0
  go_wp2
  go_ret
  exact ⟨rfl, (by repeat (first | with_reducible exact hE1 | with_reducible exact Ext.refl _ | refine Ext.alloc ?_ _))⟩

set_option maxHeartbeats 400000 in
theorem eqSTG_c (w : World) (a1 : Option Addr) (c1 : Nat) (a2 : Option Addr) (c2 : Nat) (a3 : Option Addr) (c3 : Nat) (a1' : Option Addr) (c1' : Nat) (a2' : Option Addr) (c2' : Nat) (a3' : Option Addr) (c3' : Nat) (x : Stg) (h : tStg.R w x [.int .i64 x.net.places, .slice a1 x.net.trs.length c1, .slice a2 x.signals.length c2, .slice a3 x.labels.length c3, .string x.start]) (h' : tStg.R w x [.int .i64 x.net.places, .slice a1' x.net.trs.length c1', .slice a2' x.signals.length c2', .slice a3' x.labels.length c3', .string x.start]) :
    Calls Try.prog 33 #[.agg #[.int .i64 x.net.places, .slice a1 x.net.trs.length c1, .slice a2 x.signals.length c2, .slice a3 x.labels.length c3, .string x.start], .agg #[.int .i64 x.net.places, .slice a1' x.net.trs.length c1', .slice a2' x.signals.length c2', .slice a3' x.labels.length c3', .string x.start]] w fun e w' => e = .returned (.bool true) ∧ Ext w w' := by
  obtain ⟨h_net, h_signals, h_labels, h_start⟩ := R_Stg.1 h
  have H_net := Lib.hid h_net
  have H_signals := Lib.hid h_signals
  have H_labels := Lib.hid h_labels
  have H_start := Lib.hid h_start
  clear h h_net h_signals h_labels h_start
  obtain ⟨h_net', h_signals', h_labels', h_start'⟩ := R_Stg.1 h'
  have H_net' := Lib.hid h_net'
  have H_signals' := Lib.hid h_signals'
  have H_labels' := Lib.hid h_labels'
  have H_start' := Lib.hid h_start'
  clear h' h_net' h_signals' h_labels' h_start'
  go_enter Try.func33, Try.ntmps33
  go_wp2_with fail
  refine (eqNet_c _ _ _ _ _ _ (Ty.R.ext H_net.out (by repeat (first | with_reducible exact Ext.refl _ | with_reducible exact Ext.refl _ | refine Ext.alloc ?_ _))) (Ty.R.ext H_net'.out (by repeat (first | with_reducible exact Ext.refl _ | with_reducible exact Ext.refl _ | refine Ext.alloc ?_ _)))).mono ?_
  rintro e w1 ⟨rfl, hx0⟩
  have hE1 : Ext w w1 := Ext.trans (by repeat (first | with_reducible exact Ext.refl _ | with_reducible exact Ext.refl _ | refine Ext.alloc ?_ _)) hx0
  have hB0 := hx0
  obtain ⟨hk0, hq0⟩ := hB0.cells
  simp only [World.size_alloc] at hk0 hq0
  go_wp2_with fail
  refine (eqSignalS_c _ _ _ _ _ _ (Ty.R.ext H_signals.out (by repeat (first | with_reducible exact hE1 | with_reducible exact Ext.refl _ | refine Ext.alloc ?_ _))) (Ty.R.ext H_signals'.out (by repeat (first | with_reducible exact hE1 | with_reducible exact Ext.refl _ | refine Ext.alloc ?_ _)))).mono ?_
  rintro e w2 ⟨rfl, hx1⟩
  have hE2 : Ext w w2 := Ext.trans (by repeat (first | with_reducible exact hE1 | with_reducible exact Ext.refl _ | refine Ext.alloc ?_ _)) hx1
  have hB1 := hB0.trans hx1
  obtain ⟨hk1, hq1⟩ := hB1.cells
  simp only [World.size_alloc] at hk1 hq1
  go_wp2_with fail
  refine (eqLabelS_c _ _ _ _ _ _ (Ty.R.ext H_labels.out (by repeat (first | with_reducible exact hE2 | with_reducible exact Ext.refl _ | refine Ext.alloc ?_ _))) (Ty.R.ext H_labels'.out (by repeat (first | with_reducible exact hE2 | with_reducible exact Ext.refl _ | refine Ext.alloc ?_ _)))).mono ?_
  rintro e w3 ⟨rfl, hx2⟩
  have hE3 : Ext w w3 := Ext.trans (by repeat (first | with_reducible exact hE2 | with_reducible exact Ext.refl _ | refine Ext.alloc ?_ _)) hx2
  have hB2 := hB1.trans hx2
  obtain ⟨hk2, hq2⟩ := hB2.cells
  simp only [World.size_alloc] at hk2 hq2
  go_wp2
  go_ret
  exact ⟨rfl, (by repeat (first | with_reducible exact hE3 | with_reducible exact Ext.refl _ | refine Ext.alloc ?_ _))⟩

set_option maxHeartbeats 400000 in
theorem eqStateGraph_c (w : World) (a0 : Option Addr) (c0 : Nat) (a1 : Option Addr) (c1 : Nat) (a2 : Option Addr) (c2 : Nat) (a0' : Option Addr) (c0' : Nat) (a1' : Option Addr) (c1' : Nat) (a2' : Option Addr) (c2' : Nat) (x : SGraph) (h : tSGraph.R w x [.slice a0 x.signals.length c0, .slice a1 x.codes.length c1, .slice a2 x.arcs.length c2]) (h' : tSGraph.R w x [.slice a0' x.signals.length c0', .slice a1' x.codes.length c1', .slice a2' x.arcs.length c2']) :
    Calls Try.prog 19 #[.agg #[.slice a0 x.signals.length c0, .slice a1 x.codes.length c1, .slice a2 x.arcs.length c2], .agg #[.slice a0' x.signals.length c0', .slice a1' x.codes.length c1', .slice a2' x.arcs.length c2']] w fun e w' => e = .returned (.bool true) ∧ Ext w w' := by
  obtain ⟨h_signals, h_codes, h_arcs⟩ := R_SGraph.1 h
  have H_signals := Lib.hid h_signals
  have H_codes := Lib.hid h_codes
  have H_arcs := Lib.hid h_arcs
  clear h h_signals h_codes h_arcs
  obtain ⟨h_signals', h_codes', h_arcs'⟩ := R_SGraph.1 h'
  have H_signals' := Lib.hid h_signals'
  have H_codes' := Lib.hid h_codes'
  have H_arcs' := Lib.hid h_arcs'
  clear h' h_signals' h_codes' h_arcs'
  go_enter Try.func19, Try.ntmps19
  go_wp2_with fail
  refine (eqSignalS_c _ _ _ _ _ _ (Ty.R.ext H_signals.out (by repeat (first | with_reducible exact Ext.refl _ | with_reducible exact Ext.refl _ | refine Ext.alloc ?_ _))) (Ty.R.ext H_signals'.out (by repeat (first | with_reducible exact Ext.refl _ | with_reducible exact Ext.refl _ | refine Ext.alloc ?_ _)))).mono ?_
  rintro e w1 ⟨rfl, hx0⟩
  have hE1 : Ext w w1 := Ext.trans (by repeat (first | with_reducible exact Ext.refl _ | with_reducible exact Ext.refl _ | refine Ext.alloc ?_ _)) hx0
  have hB0 := hx0
  obtain ⟨hk0, hq0⟩ := hB0.cells
  simp only [World.size_alloc] at hk0 hq0
  go_wp2_with fail
  refine (eqStringS_c _ _ _ _ _ _ (Ty.R.ext H_codes.out (by repeat (first | with_reducible exact hE1 | with_reducible exact Ext.refl _ | refine Ext.alloc ?_ _))) (Ty.R.ext H_codes'.out (by repeat (first | with_reducible exact hE1 | with_reducible exact Ext.refl _ | refine Ext.alloc ?_ _)))).mono ?_
  rintro e w2 ⟨rfl, hx1⟩
  have hE2 : Ext w w2 := Ext.trans (by repeat (first | with_reducible exact hE1 | with_reducible exact Ext.refl _ | refine Ext.alloc ?_ _)) hx1
  have hB1 := hB0.trans hx1
  obtain ⟨hk1, hq1⟩ := hB1.cells
  simp only [World.size_alloc] at hk1 hq1
  go_wp2_with fail
  refine (eqArcS_c _ _ _ _ _ _ (Ty.R.ext H_arcs.out (by repeat (first | with_reducible exact hE2 | with_reducible exact Ext.refl _ | refine Ext.alloc ?_ _))) (Ty.R.ext H_arcs'.out (by repeat (first | with_reducible exact hE2 | with_reducible exact Ext.refl _ | refine Ext.alloc ?_ _)))).mono ?_
  rintro e w3 ⟨rfl, hx2⟩
  have hE3 : Ext w w3 := Ext.trans (by repeat (first | with_reducible exact hE2 | with_reducible exact Ext.refl _ | refine Ext.alloc ?_ _)) hx2
  have hB2 := hB1.trans hx2
  obtain ⟨hk2, hq2⟩ := hB2.cells
  simp only [World.size_alloc] at hk2 hq2
  go_wp2
  go_ret
  exact ⟨rfl, (by repeat (first | with_reducible exact hE3 | with_reducible exact Ext.refl _ | refine Ext.alloc ?_ _))⟩

set_option maxHeartbeats 400000 in
theorem eqUnfolding_c (w : World) (a0 : Option Addr) (c0 : Nat) (a1 : Option Addr) (c1 : Nat) (a0' : Option Addr) (c0' : Nat) (a1' : Option Addr) (c1' : Nat) (x : Unf) (h : tUnf.R w x [.slice a0 x.conds.length c0, .slice a1 x.events.length c1]) (h' : tUnf.R w x [.slice a0' x.conds.length c0', .slice a1' x.events.length c1']) :
    Calls Try.prog 25 #[.agg #[.slice a0 x.conds.length c0, .slice a1 x.events.length c1], .agg #[.slice a0' x.conds.length c0', .slice a1' x.events.length c1']] w fun e w' => e = .returned (.bool true) ∧ Ext w w' := by
  obtain ⟨h_conds, h_events⟩ := R_Unf.1 h
  have H_conds := Lib.hid h_conds
  have H_events := Lib.hid h_events
  clear h h_conds h_events
  obtain ⟨h_conds', h_events'⟩ := R_Unf.1 h'
  have H_conds' := Lib.hid h_conds'
  have H_events' := Lib.hid h_events'
  clear h' h_conds' h_events'
  go_enter Try.func25, Try.ntmps25
  go_wp2_with fail
  refine (eqConditionS_c _ _ _ _ _ _ (Ty.R.ext H_conds.out (by repeat (first | with_reducible exact Ext.refl _ | with_reducible exact Ext.refl _ | refine Ext.alloc ?_ _))) (Ty.R.ext H_conds'.out (by repeat (first | with_reducible exact Ext.refl _ | with_reducible exact Ext.refl _ | refine Ext.alloc ?_ _)))).mono ?_
  rintro e w1 ⟨rfl, hx0⟩
  have hE1 : Ext w w1 := Ext.trans (by repeat (first | with_reducible exact Ext.refl _ | with_reducible exact Ext.refl _ | refine Ext.alloc ?_ _)) hx0
  have hB0 := hx0
  obtain ⟨hk0, hq0⟩ := hB0.cells
  simp only [World.size_alloc] at hk0 hq0
  go_wp2_with fail
  refine (eqEventS_c _ _ _ _ _ _ (Ty.R.ext H_events.out (by repeat (first | with_reducible exact hE1 | with_reducible exact Ext.refl _ | refine Ext.alloc ?_ _))) (Ty.R.ext H_events'.out (by repeat (first | with_reducible exact hE1 | with_reducible exact Ext.refl _ | refine Ext.alloc ?_ _)))).mono ?_
  rintro e w2 ⟨rfl, hx1⟩
  have hE2 : Ext w w2 := Ext.trans (by repeat (first | with_reducible exact hE1 | with_reducible exact Ext.refl _ | refine Ext.alloc ?_ _)) hx1
  have hB1 := hB0.trans hx1
  obtain ⟨hk1, hq1⟩ := hB1.cells
  simp only [World.size_alloc] at hk1 hq1
  go_wp2
  go_ret
  exact ⟨rfl, (by repeat (first | with_reducible exact hE2 | with_reducible exact Ext.refl _ | refine Ext.alloc ?_ _))⟩
end Go.Proofs.Ytcbfpeplcbgpjaa
