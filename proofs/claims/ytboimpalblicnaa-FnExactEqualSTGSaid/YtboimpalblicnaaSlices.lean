/- The library's functions on slices, at the program's types. -/
import Derived.Test.YtboimpalblicnaaLibc
namespace Go.Proofs.Ytboimpalblicnaa
open Go.ChangeShapes Go.WideShapes Go.ChangeAt Go.RowKit
theorem list_eq_of_nth {α : Type} [Inhabited α] {l r : List α} (hl : l.length = r.length) (h : ∀ j, j < l.length → nth l j = nth r j) : l = r :=
  List.ext_getElem hl (fun i h1 h2 => by have := h i h1; rwa [nth_get h1, nth_get h2] at this)
theorem ne_of_nth {α : Type} [Inhabited α] {l r : List α} {k : Nat} (h : ¬ nth l k = nth r k) : ¬ l = r := fun e => h (by rw [e])
theorem bytes_ext {a b : ByteArray} (h : a.toList = b.toList) : a = b := by
  rw [ByteArray.toList_eq, ByteArray.toList_eq] at h
  cases a; cases b
  simp at h; simp [h]

set_option maxHeartbeats 800000 in
theorem Equal_Int_c (w : World) (a a' : Option Addr) (c c' : Nat) (l r : List Int) (h : (tSl tInt).R w l [.slice a l.length c]) (h' : (tSl tInt).R w r [.slice a' r.length c']) :
    Calls Try.prog 102 #[.slice a l.length c, .slice a' r.length c'] w fun e w' => e = .returned (.bool (decide (l = r))) ∧ Ext w w' := by
  have hn := R_len h
  have hn' := R_len h'
  obtain ⟨_, _, _, _, hs⟩ := R_sl.1 h
  obtain ⟨_, _, _, _, hs'⟩ := R_sl.1 h'
  clear h h'
  by_cases hlen : l.length = r.length
  · have HN := Lib.hid hlen
    clear hlen
    rw [← HN.out]
    go_enter Try.func102, Try.ntmps102
    go_wp2
    go_loopw [13] (fun i wr => ∃ k : Nat, k ≤ l.length ∧ i = .int .i64 k ∧ (∀ j, j < k → nth l j = nth r j) ∧ Ext w wr) (fun i _ => l.length - (intOf i).toNat)
    case atStart => exact ⟨0, Nat.zero_le _, rfl, by omega, Ext.refl _⟩
    case round =>
      obtain ⟨k, hk, rfl, hj, hb⟩ := hrel
      have HJ := Lib.hid hj
      clear hj
      by_cases hlt : k < l.length
      · have hlt' : k < r.length := by have := HN.out; omega
        obtain ⟨b, o, rfl, hbs, hel⟩ := hs.get (by omega)
        obtain ⟨b', o', rfl, hbs', hel'⟩ := hs'.get (by omega)
        have hc0 := (at_int ((hel k hlt).ext hb hbs)).1
        simp only [tInt, Nat.mul_one] at hc0
        have hc0' := (at_int ((hel' k hlt').ext hb hbs')).1
        simp only [tInt, Nat.mul_one] at hc0'
        clear hel hel'
        by_cases hq : nth l k = nth r k
        · rw [← hq] at hc0'
          have HQ := Lib.hid hq
          clear hq
          have hz : (nth l k != nth l k) = false := by simp
          go_wp2
          go_quiet (fail)
          go_wp2
          go_roundw
          case rel => exact ⟨k + 1, by omega, by go_num, fun j hj => by by_cases e : j = k; (rw [e]; exact HQ.out); exact HJ.out j (by omega), hb.drewN _⟩
          case measure => simp [intOf]; omega
        · have HQ := Lib.hid (ne_of_nth hq)
          have hz : (nth l k != nth r k) = true := by rw [bne_iff_ne]; exact hq
          clear hq
          go_wp2
          go_quiet (fail)
          go_wp2
          all_goals
            go_ret
            exact ⟨ret_bool (by simp [HQ.out]), hb.drewN _⟩
      · obtain rfl : k = l.length := by omega
        have HQ := Lib.hid (list_eq_of_nth HN.out HJ.out)
        go_wp2
        go_ret
        exact ⟨ret_bool (by simp [HQ.out]), hb⟩
  · have hz : ((l.length : Int) != (r.length : Int)) = true := by rw [bne_iff_ne]; omega
    have HQ := Lib.hid (show ¬ l = r from fun e => hlen (by rw [e]))
    clear hlen
    go_enter Try.func102, Try.ntmps102
    go_wp2
    go_ret
    exact ⟨ret_bool (by simp [HQ.out]), Ext.refl _⟩

set_option maxHeartbeats 800000 in
theorem Equal_Sig_c (w : World) (a a' : Option Addr) (c c' : Nat) (l r : List Sig) (h : (tSl tSig).R w l [.slice a l.length c]) (h' : (tSl tSig).R w r [.slice a' r.length c']) :
    Calls Try.prog 138 #[.slice a l.length c, .slice a' r.length c'] w fun e w' => e = .returned (.bool (decide (l = r))) ∧ Ext w w' := by
  have hn := R_len h
  have hn' := R_len h'
  obtain ⟨_, _, _, _, hs⟩ := R_sl.1 h
  obtain ⟨_, _, _, _, hs'⟩ := R_sl.1 h'
  clear h h'
  by_cases hlen : l.length = r.length
  · have HN := Lib.hid hlen
    clear hlen
    rw [← HN.out]
    go_enter Try.func138, Try.ntmps138
    go_wp2
    go_loopw [13] (fun i wr => ∃ k : Nat, k ≤ l.length ∧ i = .int .i64 k ∧ (∀ j, j < k → nth l j = nth r j) ∧ Ext w wr) (fun i _ => l.length - (intOf i).toNat)
    case atStart => exact ⟨0, Nat.zero_le _, rfl, by omega, Ext.refl _⟩
    case round =>
      obtain ⟨k, hk, rfl, hj, hb⟩ := hrel
      have HJ := Lib.hid hj
      clear hj
      by_cases hlt : k < l.length
      · have hlt' : k < r.length := by have := HN.out; omega
        obtain ⟨b, o, rfl, hbs, hel⟩ := hs.get (by omega)
        obtain ⟨b', o', rfl, hbs', hel'⟩ := hs'.get (by omega)
        obtain ⟨_, hc0, hc1, hR⟩ := at_Sig ((hel k hlt).ext hb hbs)
        simp only [show tSig.n = 2 from rfl] at hc0 hc1
        obtain ⟨_, hc0', hc1', hR'⟩ := at_Sig ((hel' k hlt').ext hb hbs')
        simp only [show tSig.n = 2 from rfl] at hc0' hc1'
        clear hel hel'
        by_cases hq : nth l k = nth r k
        · rw [← hq] at hc0' hc1'
          have HQ := Lib.hid hq
          clear hq
          go_wp2
          go_quiet (fail)
          go_wp2
          go_roundw
          case rel => exact ⟨k + 1, by omega, by go_num, fun j hj => by by_cases e : j = k; (rw [e]; exact HQ.out); exact HJ.out j (by omega), hb.drewN _⟩
          case measure => simp [intOf]; omega
        · have HQ := Lib.hid (ne_of_nth hq)
          by_cases hd0 : (nth l k).name = (nth r k).name
          · rw [← hd0] at hc0'
            have HD0 := Lib.hid hd0
            clear hd0
            have hd1 : ¬ (nth l k).kind = (nth r k).kind := fun e => hq (by cases hx : nth l k; cases hy : nth r k; simp_all [Hid])
            have hz : ((nth l k).kind == (nth r k).kind) = false := by simpa using hd1
            clear hq hd1
            go_wp2
            go_quiet (fail)
            go_wp2
            all_goals
              go_ret
              exact ⟨ret_bool (by simp [HQ.out]), hb.drewN _⟩
          · have hz : ((nth l k).name.toList == (nth r k).name.toList) = false := by rw [beq_eq_false_iff_ne]; exact fun e => hd0 (bytes_ext e)
            clear hq hd0
            go_wp2
            go_quiet (fail)
            go_wp2
            all_goals
              go_ret
              exact ⟨ret_bool (by simp [HQ.out]), hb.drewN _⟩
      · obtain rfl : k = l.length := by omega
        have HQ := Lib.hid (list_eq_of_nth HN.out HJ.out)
        go_wp2
        go_ret
        exact ⟨ret_bool (by simp [HQ.out]), hb⟩
  · have hz : ((l.length : Int) != (r.length : Int)) = true := by rw [bne_iff_ne]; omega
    have HQ := Lib.hid (show ¬ l = r from fun e => hlen (by rw [e]))
    clear hlen
    go_enter Try.func138, Try.ntmps138
    go_wp2
    go_ret
    exact ⟨ret_bool (by simp [HQ.out]), Ext.refl _⟩

set_option maxHeartbeats 800000 in
theorem Equal_Lab_c (w : World) (a a' : Option Addr) (c c' : Nat) (l r : List Lab) (h : (tSl tLab).R w l [.slice a l.length c]) (h' : (tSl tLab).R w r [.slice a' r.length c']) :
    Calls Try.prog 139 #[.slice a l.length c, .slice a' r.length c'] w fun e w' => e = .returned (.bool (decide (l = r))) ∧ Ext w w' := by
  have hn := R_len h
  have hn' := R_len h'
  obtain ⟨_, _, _, _, hs⟩ := R_sl.1 h
  obtain ⟨_, _, _, _, hs'⟩ := R_sl.1 h'
  clear h h'
  by_cases hlen : l.length = r.length
  · have HN := Lib.hid hlen
    clear hlen
    rw [← HN.out]
    go_enter Try.func139, Try.ntmps139
    go_wp2
    go_loopw [13] (fun i wr => ∃ k : Nat, k ≤ l.length ∧ i = .int .i64 k ∧ (∀ j, j < k → nth l j = nth r j) ∧ Ext w wr) (fun i _ => l.length - (intOf i).toNat)
    case atStart => exact ⟨0, Nat.zero_le _, rfl, by omega, Ext.refl _⟩
    case round =>
      obtain ⟨k, hk, rfl, hj, hb⟩ := hrel
      have HJ := Lib.hid hj
      clear hj
      by_cases hlt : k < l.length
      · have hlt' : k < r.length := by have := HN.out; omega
        obtain ⟨b, o, rfl, hbs, hel⟩ := hs.get (by omega)
        obtain ⟨b', o', rfl, hbs', hel'⟩ := hs'.get (by omega)
        obtain ⟨_, hc0, hc1, hR⟩ := at_Lab ((hel k hlt).ext hb hbs)
        simp only [show tLab.n = 2 from rfl] at hc0 hc1
        obtain ⟨_, hc0', hc1', hR'⟩ := at_Lab ((hel' k hlt').ext hb hbs')
        simp only [show tLab.n = 2 from rfl] at hc0' hc1'
        clear hel hel'
        by_cases hq : nth l k = nth r k
        · rw [← hq] at hc0' hc1'
          have HQ := Lib.hid hq
          clear hq
          go_wp2
          go_quiet (fail)
          go_wp2
          go_roundw
          case rel => exact ⟨k + 1, by omega, by go_num, fun j hj => by by_cases e : j = k; (rw [e]; exact HQ.out); exact HJ.out j (by omega), hb.drewN _⟩
          case measure => simp [intOf]; omega
        · have HQ := Lib.hid (ne_of_nth hq)
          by_cases hd0 : (nth l k).sig = (nth r k).sig
          · rw [← hd0] at hc0'
            have HD0 := Lib.hid hd0
            clear hd0
            have hd1 : ¬ (nth l k).up = (nth r k).up := fun e => hq (by cases hx : nth l k; cases hy : nth r k; simp_all [Hid])
            have hz : ((nth l k).up == (nth r k).up) = false := by simpa using hd1
            clear hq hd1
            go_wp2
            go_quiet (fail)
            go_wp2
            all_goals
              go_ret
              exact ⟨ret_bool (by simp [HQ.out]), hb.drewN _⟩
          · have hz : ((nth l k).sig == (nth r k).sig) = false := by simpa using hd0
            clear hq hd0
            go_wp2
            go_quiet (fail)
            go_wp2
            all_goals
              go_ret
              exact ⟨ret_bool (by simp [HQ.out]), hb.drewN _⟩
      · obtain rfl : k = l.length := by omega
        have HQ := Lib.hid (list_eq_of_nth HN.out HJ.out)
        go_wp2
        go_ret
        exact ⟨ret_bool (by simp [HQ.out]), hb⟩
  · have hz : ((l.length : Int) != (r.length : Int)) = true := by rw [bne_iff_ne]; omega
    have HQ := Lib.hid (show ¬ l = r from fun e => hlen (by rw [e]))
    clear hlen
    go_enter Try.func139, Try.ntmps139
    go_wp2
    go_ret
    exact ⟨ret_bool (by simp [HQ.out]), Ext.refl _⟩

set_option maxHeartbeats 800000 in
theorem l1Same_c (w : World) (a a' : Option Addr) (c c' : Nat) (l r : List Int) (h : (tSl tInt).R w l [.slice a l.length c]) (h' : (tSl tInt).R w r [.slice a' r.length c']) :
    Calls Try.prog 101 #[.slice a l.length c, .slice a' r.length c'] w fun e w' => e = .returned (.bool (decide (l = r))) ∧ Ext w w' := by
  have hn := R_len h
  have hn' := R_len h'
  obtain ⟨_, _, _, _, hs⟩ := R_sl.1 h
  obtain ⟨_, _, _, _, hs'⟩ := R_sl.1 h'
  clear h h'
  by_cases hlen : l.length = r.length
  · have HN := Lib.hid hlen
    clear hlen
    rw [← HN.out]
    go_enter Try.func101, Try.ntmps101
    go_wp2
    go_loopw [13] (fun i wr => ∃ k : Nat, k ≤ l.length ∧ i = .int .i64 k ∧ (∀ j, j < k → nth l j = nth r j) ∧ Ext w wr) (fun i _ => l.length - (intOf i).toNat)
    case atStart => exact ⟨0, Nat.zero_le _, rfl, by omega, Ext.refl _⟩
    case round =>
      obtain ⟨k, hk, rfl, hj, hb⟩ := hrel
      have HJ := Lib.hid hj
      clear hj
      by_cases hlt : k < l.length
      · have hlt' : k < r.length := by have := HN.out; omega
        obtain ⟨b, o, rfl, hbs, hel⟩ := hs.get (by omega)
        obtain ⟨b', o', rfl, hbs', hel'⟩ := hs'.get (by omega)
        have hc0 := (at_int ((hel k hlt).ext hb hbs)).1
        simp only [tInt, Nat.mul_one] at hc0
        have hc0' := (at_int ((hel' k hlt').ext hb hbs')).1
        simp only [tInt, Nat.mul_one] at hc0'
        clear hel hel'
        by_cases hq : nth l k = nth r k
        · rw [← hq] at hc0'
          have HQ := Lib.hid hq
          clear hq
          have hz : (nth l k != nth l k) = false := by simp
          go_wp2
          go_quiet (fail)
          go_wp2
          go_roundw
          case rel => exact ⟨k + 1, by omega, by go_num, fun j hj => by by_cases e : j = k; (rw [e]; exact HQ.out); exact HJ.out j (by omega), hb.drewN _⟩
          case measure => simp [intOf]; omega
        · have HQ := Lib.hid (ne_of_nth hq)
          have hz : (nth l k != nth r k) = true := by rw [bne_iff_ne]; exact hq
          clear hq
          go_wp2
          go_quiet (fail)
          go_wp2
          all_goals
            go_ret
            exact ⟨ret_bool (by simp [HQ.out]), hb.drewN _⟩
      · obtain rfl : k = l.length := by omega
        have HQ := Lib.hid (list_eq_of_nth HN.out HJ.out)
        go_wp2
        go_ret
        exact ⟨ret_bool (by simp [HQ.out]), hb⟩
  · have hz : ((l.length : Int) != (r.length : Int)) = true := by rw [bne_iff_ne]; omega
    have HQ := Lib.hid (show ¬ l = r from fun e => hlen (by rw [e]))
    clear hlen
    go_enter Try.func101, Try.ntmps101
    go_wp2
    go_ret
    exact ⟨ret_bool (by simp [HQ.out]), Ext.refl _⟩

set_option maxHeartbeats 800000 in
theorem l2SameSignals_c (w : World) (a a' : Option Addr) (c c' : Nat) (l r : List Sig) (h : (tSl tSig).R w l [.slice a l.length c]) (h' : (tSl tSig).R w r [.slice a' r.length c']) :
    Calls Try.prog 134 #[.slice a l.length c, .slice a' r.length c'] w fun e w' => e = .returned (.bool (decide (l = r))) ∧ Ext w w' := by
  have hn := R_len h
  have hn' := R_len h'
  obtain ⟨_, _, _, _, hs⟩ := R_sl.1 h
  obtain ⟨_, _, _, _, hs'⟩ := R_sl.1 h'
  clear h h'
  by_cases hlen : l.length = r.length
  · have HN := Lib.hid hlen
    clear hlen
    rw [← HN.out]
    go_enter Try.func134, Try.ntmps134
    go_wp2
    go_loopw [13] (fun i wr => ∃ k : Nat, k ≤ l.length ∧ i = .int .i64 k ∧ (∀ j, j < k → nth l j = nth r j) ∧ Ext w wr) (fun i _ => l.length - (intOf i).toNat)
    case atStart => exact ⟨0, Nat.zero_le _, rfl, by omega, Ext.refl _⟩
    case round =>
      obtain ⟨k, hk, rfl, hj, hb⟩ := hrel
      have HJ := Lib.hid hj
      clear hj
      by_cases hlt : k < l.length
      · have hlt' : k < r.length := by have := HN.out; omega
        obtain ⟨b, o, rfl, hbs, hel⟩ := hs.get (by omega)
        obtain ⟨b', o', rfl, hbs', hel'⟩ := hs'.get (by omega)
        obtain ⟨_, hc0, hc1, hR⟩ := at_Sig ((hel k hlt).ext hb hbs)
        simp only [show tSig.n = 2 from rfl] at hc0 hc1
        obtain ⟨_, hc0', hc1', hR'⟩ := at_Sig ((hel' k hlt').ext hb hbs')
        simp only [show tSig.n = 2 from rfl] at hc0' hc1'
        clear hel hel'
        by_cases hq : nth l k = nth r k
        · rw [← hq] at hc0' hc1'
          have HQ := Lib.hid hq
          clear hq
          go_wp2
          go_quiet (fail)
          go_wp2
          go_roundw
          case rel => exact ⟨k + 1, by omega, by go_num, fun j hj => by by_cases e : j = k; (rw [e]; exact HQ.out); exact HJ.out j (by omega), hb.drewN _⟩
          case measure => simp [intOf]; omega
        · have HQ := Lib.hid (ne_of_nth hq)
          by_cases hd0 : (nth l k).name = (nth r k).name
          · rw [← hd0] at hc0'
            have HD0 := Lib.hid hd0
            clear hd0
            have hd1 : ¬ (nth l k).kind = (nth r k).kind := fun e => hq (by cases hx : nth l k; cases hy : nth r k; simp_all [Hid])
            have hz : ((nth l k).kind == (nth r k).kind) = false := by simpa using hd1
            clear hq hd1
            go_wp2
            go_quiet (fail)
            go_wp2
            all_goals
              go_ret
              exact ⟨ret_bool (by simp [HQ.out]), hb.drewN _⟩
          · have hz : ((nth l k).name.toList == (nth r k).name.toList) = false := by rw [beq_eq_false_iff_ne]; exact fun e => hd0 (bytes_ext e)
            clear hq hd0
            go_wp2
            go_quiet (fail)
            go_wp2
            all_goals
              go_ret
              exact ⟨ret_bool (by simp [HQ.out]), hb.drewN _⟩
      · obtain rfl : k = l.length := by omega
        have HQ := Lib.hid (list_eq_of_nth HN.out HJ.out)
        go_wp2
        go_ret
        exact ⟨ret_bool (by simp [HQ.out]), hb⟩
  · have hz : ((l.length : Int) != (r.length : Int)) = true := by rw [bne_iff_ne]; omega
    have HQ := Lib.hid (show ¬ l = r from fun e => hlen (by rw [e]))
    clear hlen
    go_enter Try.func134, Try.ntmps134
    go_wp2
    go_ret
    exact ⟨ret_bool (by simp [HQ.out]), Ext.refl _⟩
end Go.Proofs.Ytboimpalblicnaa
