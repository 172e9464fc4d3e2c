/- The laws' own helpers: sz, the budget that a value takes. -/
import Derived.Test.YtkegeacjalechaaDoorTypes
set_option linter.unusedSimpArgs false
set_option linter.unusedVariables false
namespace Go.Proofs.YtkegeacjalechaaDoor
open Go.ChangeShapes Go.WideShapes Go.ChangeAt Go.RowKit
/-- What is left of a budget; -1 if it does not suffice. -/
def lessen (left : Int) (n : Nat) : Int := if left < n then -1 else left - n
theorem lessen_neg {left : Int} {n : Nat} (h : left < n) : lessen left n = -1 := by simp [lessen, h]
theorem lessen_pos {left : Int} {n : Nat} (h : (n : Int) ≤ left) : lessen left n = left - n := by unfold lessen; rw [if_neg (by omega)]
theorem R_len {α : Type} [Inhabited α] {T : Ty α} {w : World} {l : List α} {a : Option Addr} {n c : Nat} (h : (tSl T).R w l [.slice a n c]) : l.length ≤ 9223372036854775807 := by
  obtain ⟨h1, h2, h3, _⟩ := R_sl.1 h; omega
theorem sum_take_le (l : List Nat) (k : Nat) : (l.take k).sum ≤ l.sum := by
  have : l.sum = (l.take k).sum + (l.drop k).sum := by rw [← List.sum_append, List.take_append_drop]
  omega
theorem sum_take_succ {α : Type} [Inhabited α] (l : List α) (f : α → Nat) {k : Nat} (h : k < l.length) : ((l.take (k + 1)).map f).sum = ((l.take k).map f).sum + f (nth l k) := by
  rw [take_nth h, List.map_append, List.sum_append]; simp
theorem sum_take_map_le {α : Type} (l : List α) (f : α → Nat) (k : Nat) : ((l.take k).map f).sum ≤ (l.map f).sum := by rw [List.map_take]; exact sum_take_le _ _

theorem szIntS_c (w : World) (a : Option Addr) (c : Nat) (l : List Int) (left : Int) (h : (tSl tInt).R w l [.slice a l.length c]) (h0 : 0 ≤ left) (h1 : left ≤ 1048576) :
    Calls Tryd.prog 82 #[.slice a l.length c, .int .i64 left] w fun e w' => e = .returned (.int .i64 (lessen left (szInts l))) ∧ Ext w w' := by
  have hn := R_len h
  have HS : Hid (szInts l = l.length) := Lib.hid rfl
  by_cases hlt : left < l.length
  all_goals
    go_enter Tryd.func82, Tryd.ntmps82
    go_wp2
    go_ret
    refine ⟨ret_int ?_, Ext.refl _⟩
    rw [HS.out]
  · rw [lessen_neg hlt]
  · rw [lessen_pos (by omega)]

set_option maxHeartbeats 400000 in
theorem szTransition_c (w : World) (a0 : Option Addr) (c0 : Nat) (a1 : Option Addr) (c1 : Nat) (x : Tr) (left : Int) (h : tTr.R w x [.slice a0 x.pre.length c0, .slice a1 x.post.length c1]) (h0 : 0 ≤ left) (h1 : left ≤ 1048576) :
    Calls Tryd.prog 68 #[.agg #[.slice a0 x.pre.length c0, .slice a1 x.post.length c1], .int .i64 left] w fun e w' => e = .returned (.int .i64 (lessen left (szTr x))) ∧ Ext w w' := by
  have HS : Hid (szTr x = szInts x.pre + szInts x.post) := Lib.hid rfl
  obtain ⟨h_pre, h_post⟩ := R_Tr.1 h
  have H := Lib.hid h
  clear h
  have H_pre := Lib.hid h_pre
  clear h_pre
  have H_post := Lib.hid h_post
  clear h_post
  have hE0 : Ext w (w.alloc (.cells #[.slice a0 x.pre.length c0, .slice a1 x.post.length c1] 98)) := (Ext.refl w).alloc _
  by_cases hq0 : left < ((szInts x.pre : Nat) : Int)
  · go_enter Tryd.func68, Tryd.ntmps68
    go_wp2_with fail
    refine (szIntS_c _ _ _ _ _ (Ty.R.ext H_pre.out hE0) (by omega) (by omega)).mono ?_
    rintro e w1 ⟨rfl, hx0⟩
    have hE1 := hE0.trans hx0
    have hB0 := hx0
    obtain ⟨hk0, hf0⟩ := hB0.cells
    try simp only [World.size_alloc] at hk0 hf0
    rw [lessen_neg (by omega)]
    go_wp2
    go_ret
    exact ⟨ret_int (by rw [HS.out]; unfold lessen; split <;> omega), hE1⟩
  · skip
    by_cases hq1 : left - ((szInts x.pre : Nat) : Int) < ((szInts x.post : Nat) : Int)
    · go_enter Tryd.func68, Tryd.ntmps68
      go_wp2_with fail
      refine (szIntS_c _ _ _ _ _ (Ty.R.ext H_pre.out hE0) (by omega) (by omega)).mono ?_
      rintro e w1 ⟨rfl, hx0⟩
      have hE1 := hE0.trans hx0
      have hB0 := hx0
      obtain ⟨hk0, hf0⟩ := hB0.cells
      try simp only [World.size_alloc] at hk0 hf0
      rw [lessen_pos (by omega)]
      go_wp2_with fail
      refine (szIntS_c _ _ _ _ _ (Ty.R.ext H_post.out hE1) (by omega) (by omega)).mono ?_
      rintro e w2 ⟨rfl, hx1⟩
      have hE2 := hE1.trans hx1
      have hB1 := hB0.trans hx1
      obtain ⟨hk1, hf1⟩ := hB1.cells
      try simp only [World.size_alloc] at hk1 hf1
      rw [lessen_neg (by omega)]
      go_wp2
      go_ret
      exact ⟨ret_int (by rw [HS.out]; unfold lessen; split <;> omega), hE2⟩
    · skip
      go_enter Tryd.func68, Tryd.ntmps68
      go_wp2_with fail
      refine (szIntS_c _ _ _ _ _ (Ty.R.ext H_pre.out hE0) (by omega) (by omega)).mono ?_
      rintro e w1 ⟨rfl, hx0⟩
      have hE1 := hE0.trans hx0
      have hB0 := hx0
      obtain ⟨hk0, hf0⟩ := hB0.cells
      try simp only [World.size_alloc] at hk0 hf0
      rw [lessen_pos (by omega)]
      go_wp2_with fail
      refine (szIntS_c _ _ _ _ _ (Ty.R.ext H_post.out hE1) (by omega) (by omega)).mono ?_
      rintro e w2 ⟨rfl, hx1⟩
      have hE2 := hE1.trans hx1
      have hB1 := hB0.trans hx1
      obtain ⟨hk1, hf1⟩ := hB1.cells
      try simp only [World.size_alloc] at hk1 hf1
      rw [lessen_pos (by omega)]
      go_wp2
      go_ret
      exact ⟨ret_int (by rw [HS.out]; unfold lessen; split <;> omega), hE2⟩

set_option maxHeartbeats 400000 in
theorem szTransitionS_c (w : World) (a : Option Addr) (c : Nat) (l : List Tr) (left : Int) (h : (tSl tTr).R w l [.slice a l.length c]) (h0 : 0 ≤ left) (h1 : left ≤ 1048576) :
    Calls Tryd.prog 42 #[.slice a l.length c, .int .i64 left] w fun e w' => e = .returned (.int .i64 (lessen left (szTrs l))) ∧ Ext w w' := by
  have hn := R_len h
  obtain ⟨_, _, _, _, hs⟩ := R_sl.1 h
  have HS : Hid (szTrs l = l.length + (l.map fun x => szTr x).sum) := Lib.hid rfl
  have HT := Lib.hid (fun k => sum_take_map_le l (fun x => szTr x) k)
  by_cases hlt : left < l.length
  · go_enter Tryd.func42, Tryd.ntmps42
    go_wp2
    go_ret
    exact ⟨ret_int (by rw [HS.out, lessen_neg (by omega)]), Ext.refl _⟩
  · go_enter Tryd.func42, Tryd.ntmps42
    go_wp2
    go_loopw [1, 5] (fun v i wr => ∃ k : Nat, ∃ r : Nat, k ≤ l.length ∧ i = .int .i64 k ∧ r = l.length + ((l.take k).map fun x => szTr x).sum ∧ (r : Int) ≤ left ∧ v = .int .i64 (left - r) ∧ Ext w wr) (fun _ i _ => l.length - (intOf i).toNat)
    case atStart => exact ⟨0, l.length, Nat.zero_le _, rfl, by simp, by omega, by go_num, Ext.refl _⟩
    case round =>
      obtain ⟨k, r, hk, rfl, hr, hrl, rfl, hb⟩ := hrel
      have HR := Lib.hid hr
      clear hr
      by_cases hlt' : k < l.length
      · obtain ⟨b, o, rfl, hbs, hel⟩ := hs.get (by omega)
        obtain ⟨a0, c0, a1, c1, hc0, hc1, hR⟩ := at_Tr ((hel k hlt').ext hb hbs)
        simp only [show tTr.n = 2 from rfl] at hc0 hc1
        have HE := Lib.hid (sum_take_succ l (fun x => szTr x) hlt')
        have HTk := Lib.hid (HT.out (k + 1))
        clear hel
        go_wp2_with fail
        refine (szTransition_c _ _ _ _ _ _ _ hR (by omega) (by omega)).mono ?_
        rintro e w1 ⟨rfl, hx⟩
        have hb' := hb.trans hx
        clear hR
        by_cases hz : left - r < szTr (nth l k)
        · have HZ := Lib.hid (lessen_neg hz)
          clear hz
          rw [HZ.out]
          go_wp2
          go_ret
          exact ⟨ret_int (by rw [HS.out, lessen_neg]; have := HZ.out; have := HE.out; have := HTk.out; have := HR.out; unfold lessen at *; simp only [List.map_take] at *; split at * <;> omega), hb'⟩
        · have HZ := Lib.hid (lessen_pos (left := left - r) (n := szTr (nth l k)) (by omega))
          have hz' : (((r + szTr (nth l k) : Nat)) : Int) ≤ left := by omega
          rw [HZ.out]
          go_wp2
          go_roundw
          case rel => exact ⟨k + 1, r + szTr (nth l k), by omega, by go_num, by rw [HE.out, HR.out]; omega, hz', by go_num, hb'⟩
          case measure => simp [intOf]; omega
      · obtain rfl : k = l.length := by omega
        go_wp2
        go_ret
        exact ⟨ret_int (by have := HR.out; rw [List.take_of_length_le (Nat.le_refl _)] at this; rw [HS.out, lessen_pos (by omega)]; omega), hb⟩

set_option maxHeartbeats 400000 in
theorem szSignal_c (w : World) (x : Sig) (left : Int) (h : tSig.R w x [.string x.name, .int .i64 x.kind]) (h0 : 0 ≤ left) (h1 : left ≤ 1048576) :
    Calls Tryd.prog 43 #[.agg #[.string x.name, .int .i64 x.kind], .int .i64 left] w fun e w' => e = .returned (.int .i64 (lessen left (szSig x))) ∧ Ext w w' := by
  have HS : Hid (szSig x = x.name.size) := Lib.hid rfl
  obtain ⟨h_name, h_kind⟩ := R_Sig.1 h
  have H := Lib.hid h
  clear h
  have H_name := Lib.hid h_name
  clear h_name
  have hs_name := (R_str.1 H_name.out).2
  have H_kind := Lib.hid h_kind
  clear h_kind
  have hE0 : Ext w (w.alloc (.cells #[.string x.name, .int .i64 x.kind] 75)) := (Ext.refl w).alloc _
  by_cases hq0 : left < ((x.name.size : Nat) : Int)
  · go_enter Tryd.func43, Tryd.ntmps43
    go_wp2
    go_ret
    exact ⟨ret_int (by rw [HS.out]; unfold lessen; split <;> omega), hE0⟩
  · skip
    go_enter Tryd.func43, Tryd.ntmps43
    go_wp2
    go_ret
    exact ⟨ret_int (by rw [HS.out]; unfold lessen; split <;> omega), hE0⟩

set_option maxHeartbeats 400000 in
theorem szSignalS_c (w : World) (a : Option Addr) (c : Nat) (l : List Sig) (left : Int) (h : (tSl tSig).R w l [.slice a l.length c]) (h0 : 0 ≤ left) (h1 : left ≤ 1048576) :
    Calls Tryd.prog 19 #[.slice a l.length c, .int .i64 left] w fun e w' => e = .returned (.int .i64 (lessen left (szSigs l))) ∧ Ext w w' := by
  have hn := R_len h
  obtain ⟨_, _, _, _, hs⟩ := R_sl.1 h
  have HS : Hid (szSigs l = l.length + (l.map fun x => szSig x).sum) := Lib.hid rfl
  have HT := Lib.hid (fun k => sum_take_map_le l (fun x => szSig x) k)
  by_cases hlt : left < l.length
  · go_enter Tryd.func19, Tryd.ntmps19
    go_wp2
    go_ret
    exact ⟨ret_int (by rw [HS.out, lessen_neg (by omega)]), Ext.refl _⟩
  · go_enter Tryd.func19, Tryd.ntmps19
    go_wp2
    go_loopw [1, 5] (fun v i wr => ∃ k : Nat, ∃ r : Nat, k ≤ l.length ∧ i = .int .i64 k ∧ r = l.length + ((l.take k).map fun x => szSig x).sum ∧ (r : Int) ≤ left ∧ v = .int .i64 (left - r) ∧ Ext w wr) (fun _ i _ => l.length - (intOf i).toNat)
    case atStart => exact ⟨0, l.length, Nat.zero_le _, rfl, by simp, by omega, by go_num, Ext.refl _⟩
    case round =>
      obtain ⟨k, r, hk, rfl, hr, hrl, rfl, hb⟩ := hrel
      have HR := Lib.hid hr
      clear hr
      by_cases hlt' : k < l.length
      · obtain ⟨b, o, rfl, hbs, hel⟩ := hs.get (by omega)
        obtain ⟨_, hc0, hc1, hR⟩ := at_Sig ((hel k hlt').ext hb hbs)
        simp only [show tSig.n = 2 from rfl] at hc0 hc1
        have HE := Lib.hid (sum_take_succ l (fun x => szSig x) hlt')
        have HTk := Lib.hid (HT.out (k + 1))
        clear hel
        go_wp2_with fail
        refine (szSignal_c _ _ _ hR (by omega) (by omega)).mono ?_
        rintro e w1 ⟨rfl, hx⟩
        have hb' := hb.trans hx
        clear hR
        by_cases hz : left - r < szSig (nth l k)
        · have HZ := Lib.hid (lessen_neg hz)
          clear hz
          rw [HZ.out]
          go_wp2
          go_ret
          exact ⟨ret_int (by rw [HS.out, lessen_neg]; have := HZ.out; have := HE.out; have := HTk.out; have := HR.out; unfold lessen at *; simp only [List.map_take] at *; split at * <;> omega), hb'⟩
        · have HZ := Lib.hid (lessen_pos (left := left - r) (n := szSig (nth l k)) (by omega))
          have hz' : (((r + szSig (nth l k) : Nat)) : Int) ≤ left := by omega
          rw [HZ.out]
          go_wp2
          go_roundw
          case rel => exact ⟨k + 1, r + szSig (nth l k), by omega, by go_num, by rw [HE.out, HR.out]; omega, hz', by go_num, hb'⟩
          case measure => simp [intOf]; omega
      · obtain rfl : k = l.length := by omega
        go_wp2
        go_ret
        exact ⟨ret_int (by have := HR.out; rw [List.take_of_length_le (Nat.le_refl _)] at this; rw [HS.out, lessen_pos (by omega)]; omega), hb⟩

theorem szLabelS_c (w : World) (a : Option Addr) (c : Nat) (l : List Lab) (left : Int) (h : (tSl tLab).R w l [.slice a l.length c]) (h0 : 0 ≤ left) (h1 : left ≤ 1048576) :
    Calls Tryd.prog 20 #[.slice a l.length c, .int .i64 left] w fun e w' => e = .returned (.int .i64 (lessen left (szLabs l))) ∧ Ext w w' := by
  have hn := R_len h
  have HS : Hid (szLabs l = l.length) := Lib.hid rfl
  by_cases hlt : left < l.length
  all_goals
    go_enter Tryd.func20, Tryd.ntmps20
    go_wp2
    go_ret
    refine ⟨ret_int ?_, Ext.refl _⟩
    rw [HS.out]
  · rw [lessen_neg hlt]
  · rw [lessen_pos (by omega)]

set_option maxHeartbeats 400000 in
theorem szNet_c (w : World) (a1 : Option Addr) (c1 : Nat) (x : NetD) (left : Int) (h : tNetD.R w x [.int .i64 x.places, .slice a1 x.trs.length c1]) (h0 : 0 ≤ left) (h1 : left ≤ 1048576) :
    Calls Tryd.prog 18 #[.agg #[.int .i64 x.places, .slice a1 x.trs.length c1], .int .i64 left] w fun e w' => e = .returned (.int .i64 (lessen left (szNetD x))) ∧ Ext w w' := by
  have HS : Hid (szNetD x = szTrs x.trs) := Lib.hid rfl
  obtain ⟨h_places, h_trs⟩ := R_NetD.1 h
  have H := Lib.hid h
  clear h
  have H_places := Lib.hid h_places
  clear h_places
  have H_trs := Lib.hid h_trs
  clear h_trs
  have hE0 : Ext w (w.alloc (.cells #[.int .i64 x.places, .slice a1 x.trs.length c1] 24)) := (Ext.refl w).alloc _
  by_cases hq0 : left < ((szTrs x.trs : Nat) : Int)
  · go_enter Tryd.func18, Tryd.ntmps18
    go_wp2_with fail
    refine (szTransitionS_c _ _ _ _ _ (Ty.R.ext H_trs.out hE0) (by omega) (by omega)).mono ?_
    rintro e w1 ⟨rfl, hx0⟩
    have hE1 := hE0.trans hx0
    have hB0 := hx0
    obtain ⟨hk0, hf0⟩ := hB0.cells
    try simp only [World.size_alloc] at hk0 hf0
    rw [lessen_neg (by omega)]
    go_wp2
    go_ret
    exact ⟨ret_int (by rw [HS.out]; unfold lessen; split <;> omega), hE1⟩
  · skip
    go_enter Tryd.func18, Tryd.ntmps18
    go_wp2_with fail
    refine (szTransitionS_c _ _ _ _ _ (Ty.R.ext H_trs.out hE0) (by omega) (by omega)).mono ?_
    rintro e w1 ⟨rfl, hx0⟩
    have hE1 := hE0.trans hx0
    have hB0 := hx0
    obtain ⟨hk0, hf0⟩ := hB0.cells
    try simp only [World.size_alloc] at hk0 hf0
    rw [lessen_pos (by omega)]
    go_wp2
    go_ret
    exact ⟨ret_int (by rw [HS.out]; unfold lessen; split <;> omega), hE1⟩

set_option maxHeartbeats 400000 in
theorem szSTG_c (w : World) (a1 : Option Addr) (c1 : Nat) (a2 : Option Addr) (c2 : Nat) (a3 : Option Addr) (c3 : Nat) (x : Stg) (left : Int) (h : tStg.R w x [.int .i64 x.net.places, .slice a1 x.net.trs.length c1, .slice a2 x.signals.length c2, .slice a3 x.labels.length c3, .string x.start]) (h0 : 0 ≤ left) (h1 : left ≤ 1048576) :
    Calls Tryd.prog 7 #[.agg #[.int .i64 x.net.places, .slice a1 x.net.trs.length c1, .slice a2 x.signals.length c2, .slice a3 x.labels.length c3, .string x.start], .int .i64 left] w fun e w' => e = .returned (.int .i64 (lessen left (szStg x))) ∧ Ext w w' := by
  have HS : Hid (szStg x = szNetD x.net + szSigs x.signals + szLabs x.labels + x.start.size) := Lib.hid rfl
  obtain ⟨h_net, h_signals, h_labels, h_start⟩ := R_Stg.1 h
  have H := Lib.hid h
  clear h
  have H_net := Lib.hid h_net
  clear h_net
  have H_signals := Lib.hid h_signals
  clear h_signals
  have H_labels := Lib.hid h_labels
  clear h_labels
  have H_start := Lib.hid h_start
  clear h_start
  have hs_start := (R_str.1 H_start.out).2
  have hE0 : Ext w (w.alloc (.cells #[.int .i64 x.net.places, .slice a1 x.net.trs.length c1, .slice a2 x.signals.length c2, .slice a3 x.labels.length c3, .string x.start] 28)) := (Ext.refl w).alloc _
  by_cases hq0 : left < ((szNetD x.net : Nat) : Int)
  · go_enter Tryd.func7, Tryd.ntmps7
    go_wp2_with fail
    refine (szNet_c _ _ _ _ _ (Ty.R.ext H_net.out hE0) (by omega) (by omega)).mono ?_
    rintro e w1 ⟨rfl, hx0⟩
    have hE1 := hE0.trans hx0
    have hB0 := hx0
    obtain ⟨hk0, hf0⟩ := hB0.cells
    try simp only [World.size_alloc] at hk0 hf0
    rw [lessen_neg (by omega)]
    go_wp2
    go_ret
    exact ⟨ret_int (by rw [HS.out]; unfold lessen; split <;> omega), hE1⟩
  · skip
    by_cases hq1 : left - ((szNetD x.net : Nat) : Int) < ((szSigs x.signals : Nat) : Int)
    · go_enter Tryd.func7, Tryd.ntmps7
      go_wp2_with fail
      refine (szNet_c _ _ _ _ _ (Ty.R.ext H_net.out hE0) (by omega) (by omega)).mono ?_
      rintro e w1 ⟨rfl, hx0⟩
      have hE1 := hE0.trans hx0
      have hB0 := hx0
      obtain ⟨hk0, hf0⟩ := hB0.cells
      try simp only [World.size_alloc] at hk0 hf0
      rw [lessen_pos (by omega)]
      go_wp2_with fail
      refine (szSignalS_c _ _ _ _ _ (Ty.R.ext H_signals.out hE1) (by omega) (by omega)).mono ?_
      rintro e w2 ⟨rfl, hx1⟩
      have hE2 := hE1.trans hx1
      have hB1 := hB0.trans hx1
      obtain ⟨hk1, hf1⟩ := hB1.cells
      try simp only [World.size_alloc] at hk1 hf1
      rw [lessen_neg (by omega)]
      go_wp2
      go_ret
      exact ⟨ret_int (by rw [HS.out]; unfold lessen; split <;> omega), hE2⟩
    · skip
      by_cases hq2 : left - ((szNetD x.net : Nat) : Int) - ((szSigs x.signals : Nat) : Int) < ((szLabs x.labels : Nat) : Int)
      · go_enter Tryd.func7, Tryd.ntmps7
        go_wp2_with fail
        refine (szNet_c _ _ _ _ _ (Ty.R.ext H_net.out hE0) (by omega) (by omega)).mono ?_
        rintro e w1 ⟨rfl, hx0⟩
        have hE1 := hE0.trans hx0
        have hB0 := hx0
        obtain ⟨hk0, hf0⟩ := hB0.cells
        try simp only [World.size_alloc] at hk0 hf0
        rw [lessen_pos (by omega)]
        go_wp2_with fail
        refine (szSignalS_c _ _ _ _ _ (Ty.R.ext H_signals.out hE1) (by omega) (by omega)).mono ?_
        rintro e w2 ⟨rfl, hx1⟩
        have hE2 := hE1.trans hx1
        have hB1 := hB0.trans hx1
        obtain ⟨hk1, hf1⟩ := hB1.cells
        try simp only [World.size_alloc] at hk1 hf1
        rw [lessen_pos (by omega)]
        go_wp2_with fail
        refine (szLabelS_c _ _ _ _ _ (Ty.R.ext H_labels.out hE2) (by omega) (by omega)).mono ?_
        rintro e w3 ⟨rfl, hx2⟩
        have hE3 := hE2.trans hx2
        have hB2 := hB1.trans hx2
        obtain ⟨hk2, hf2⟩ := hB2.cells
        try simp only [World.size_alloc] at hk2 hf2
        rw [lessen_neg (by omega)]
        go_wp2
        go_ret
        exact ⟨ret_int (by rw [HS.out]; unfold lessen; split <;> omega), hE3⟩
      · skip
        by_cases hq3 : left - ((szNetD x.net : Nat) : Int) - ((szSigs x.signals : Nat) : Int) - ((szLabs x.labels : Nat) : Int) < ((x.start.size : Nat) : Int)
        · go_enter Tryd.func7, Tryd.ntmps7
          go_wp2_with fail
          refine (szNet_c _ _ _ _ _ (Ty.R.ext H_net.out hE0) (by omega) (by omega)).mono ?_
          rintro e w1 ⟨rfl, hx0⟩
          have hE1 := hE0.trans hx0
          have hB0 := hx0
          obtain ⟨hk0, hf0⟩ := hB0.cells
          try simp only [World.size_alloc] at hk0 hf0
          rw [lessen_pos (by omega)]
          go_wp2_with fail
          refine (szSignalS_c _ _ _ _ _ (Ty.R.ext H_signals.out hE1) (by omega) (by omega)).mono ?_
          rintro e w2 ⟨rfl, hx1⟩
          have hE2 := hE1.trans hx1
          have hB1 := hB0.trans hx1
          obtain ⟨hk1, hf1⟩ := hB1.cells
          try simp only [World.size_alloc] at hk1 hf1
          rw [lessen_pos (by omega)]
          go_wp2_with fail
          refine (szLabelS_c _ _ _ _ _ (Ty.R.ext H_labels.out hE2) (by omega) (by omega)).mono ?_
          rintro e w3 ⟨rfl, hx2⟩
          have hE3 := hE2.trans hx2
          have hB2 := hB1.trans hx2
          obtain ⟨hk2, hf2⟩ := hB2.cells
          try simp only [World.size_alloc] at hk2 hf2
          rw [lessen_pos (by omega)]
          go_wp2
          go_ret
          exact ⟨ret_int (by rw [HS.out]; unfold lessen; split <;> omega), hE3⟩
        · skip
          go_enter Tryd.func7, Tryd.ntmps7
          go_wp2_with fail
          refine (szNet_c _ _ _ _ _ (Ty.R.ext H_net.out hE0) (by omega) (by omega)).mono ?_
          rintro e w1 ⟨rfl, hx0⟩
          have hE1 := hE0.trans hx0
          have hB0 := hx0
          obtain ⟨hk0, hf0⟩ := hB0.cells
          try simp only [World.size_alloc] at hk0 hf0
          rw [lessen_pos (by omega)]
          go_wp2_with fail
          refine (szSignalS_c _ _ _ _ _ (Ty.R.ext H_signals.out hE1) (by omega) (by omega)).mono ?_
          rintro e w2 ⟨rfl, hx1⟩
          have hE2 := hE1.trans hx1
          have hB1 := hB0.trans hx1
          obtain ⟨hk1, hf1⟩ := hB1.cells
          try simp only [World.size_alloc] at hk1 hf1
          rw [lessen_pos (by omega)]
          go_wp2_with fail
          refine (szLabelS_c _ _ _ _ _ (Ty.R.ext H_labels.out hE2) (by omega) (by omega)).mono ?_
          rintro e w3 ⟨rfl, hx2⟩
          have hE3 := hE2.trans hx2
          have hB2 := hB1.trans hx2
          obtain ⟨hk2, hf2⟩ := hB2.cells
          try simp only [World.size_alloc] at hk2 hf2
          rw [lessen_pos (by omega)]
          go_wp2
          go_ret
          exact ⟨ret_int (by rw [HS.out]; unfold lessen; split <;> omega), hE3⟩
end Go.Proofs.YtkegeacjalechaaDoor
