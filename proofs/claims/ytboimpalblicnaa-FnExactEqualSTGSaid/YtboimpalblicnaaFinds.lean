/- The library's searches in slices, at the program's types. -/
import Derived.Test.YtboimpalblicnaaSlices
import Derived.Test.YtboimpalblicnaaNetV
namespace Go.Proofs.Ytboimpalblicnaa
open Go.ChangeShapes Go.WideShapes Go.ChangeAt Go.RowKit
theorem any_mem {α : Type} [DecidableEq α] (l : List α) (x : α) : (l.any fun y => decide (y = x)) = decide (x ∈ l) := by
  induction l with
  | nil => simp
  | cons y l ih =>
    simp only [List.any_cons, ih, List.mem_cons]
    by_cases h : y = x
    · simp [h]
    · simp [h, show ¬ x = y from fun e => h e.symm]

set_option maxHeartbeats 800000 in
theorem IndexFunc_Mv_c (w : World) (a : Option Addr) (c : Nat) (l : List Mv) (h : (tSl tMv).R w l [.slice a l.length c]) (fid : FuncId) (caps : Array Value) (p : Mv → Bool) (hf : Plainf Try.prog fid)
    (hp : ∀ k, k < l.length → ∀ w', Ext w w' → tMv.R w' (nth l k) [.int .i64 (nth l k).src, .int .i64 (nth l k).by_, .int .i64 (nth l k).dst] →
      Calls Try.prog fid (#[.agg #[.int .i64 (nth l k).src, .int .i64 (nth l k).by_, .int .i64 (nth l k).dst]] ++ caps) w' fun e w'' => e = .returned (.bool (p (nth l k))) ∧ Ext w' w'') :
    Calls Try.prog 183 #[.slice a l.length c, .func (.func fid) #[] caps] w fun e w' => e = .returned (.int .i64 (findIx p l)) ∧ Ext w w' := by
  have hn := R_len h
  obtain ⟨_, _, _, _, hs⟩ := R_sl.1 h
  clear h
  have HP := Lib.hid hp
  clear hp
  go_enter Try.func183, Try.ntmps183
  go_wp2
  go_loopw [8] (fun i wr => ∃ k : Nat, k ≤ l.length ∧ i = .int .i64 k ∧ (∀ j, j < k → p (nth l j) = false) ∧ Ext w wr) (fun i _ => l.length - (intOf i).toNat)
  case atStart => exact ⟨0, Nat.zero_le _, rfl, by omega, Ext.refl _⟩
  case round =>
    obtain ⟨k, hk, rfl, hj, hb⟩ := hrel
    have HJ := Lib.hid hj
    clear hj
    by_cases hlt : k < l.length
    · obtain ⟨b, o, rfl, hbs, hel⟩ := hs.get (by omega)
      obtain ⟨_, hc0, hc1, hc2, hR⟩ := at_Mv ((hel k hlt).ext hb hbs)
      simp only [show tMv.n = 3 from rfl] at hc0 hc1 hc2
      have HR := Lib.hid hR
      clear hel hR
      have hf' := hf
      unfold Plainf at hf'
      go_wp2_with fail
      refine (HP.out k hlt _ hb HR.out).mono ?_
      rintro e w2 ⟨rfl, hx⟩
      have hb2 := hb.trans hx
      by_cases hq : p (nth l k) = true
      · have HQ := Lib.hid (findIx_at p hlt HJ.out hq)
        rw [hq]
        clear hf' hq
        go_wp2
        go_ret
        exact ⟨ret_int (by rw [HQ.out]), hb2⟩
      · rw [Bool.not_eq_true] at hq
        have HQ := Lib.hid hq
        rw [hq]
        clear hf' hq
        go_wp2
        go_roundw
        case rel => exact ⟨k + 1, by omega, by go_num, fun j hj => by by_cases e : j = k; (rw [e]; exact HQ.out); exact HJ.out j (by omega), hb2⟩
        case measure => simp [intOf]; omega
    · obtain rfl : k = l.length := by omega
      have HQ := Lib.hid (findIx_not p (all_nth HJ.out))
      go_wp2
      go_ret
      exact ⟨ret_int (by rw [HQ.out]), hb⟩

theorem ContainsFunc_Mv_c (w : World) (a : Option Addr) (c : Nat) (l : List Mv) (h : (tSl tMv).R w l [.slice a l.length c]) (fid : FuncId) (caps : Array Value) (p : Mv → Bool) (hf : Plainf Try.prog fid)
    (hp : ∀ k, k < l.length → ∀ w', Ext w w' → tMv.R w' (nth l k) [.int .i64 (nth l k).src, .int .i64 (nth l k).by_, .int .i64 (nth l k).dst] →
      Calls Try.prog fid (#[.agg #[.int .i64 (nth l k).src, .int .i64 (nth l k).by_, .int .i64 (nth l k).dst]] ++ caps) w' fun e w'' => e = .returned (.bool (p (nth l k))) ∧ Ext w' w'') :
    Calls Try.prog 121 #[.slice a l.length c, .func (.func fid) #[] caps] w fun e w' => e = .returned (.bool (l.any p)) ∧ Ext w w' := by
  have HP := Lib.hid hp
  have HQ := Lib.hid (findIx_any p l)
  clear hp
  go_enter Try.func121, Try.ntmps121
  go_wp2_with fail
  refine (IndexFunc_Mv_c _ _ _ _ h _ _ _ hf HP.out).mono ?_
  rintro e w1 ⟨rfl, hx⟩
  go_wp2
  go_ret
  exact ⟨ret_bool (by rw [← HQ.out]), hx⟩

set_option maxHeartbeats 800000 in
theorem IndexFunc_Int_c (w : World) (a : Option Addr) (c : Nat) (l : List Int) (h : (tSl tInt).R w l [.slice a l.length c]) (fid : FuncId) (caps : Array Value) (p : Int → Bool) (hf : Plainf Try.prog fid)
    (hp : ∀ k, k < l.length → ∀ w', Ext w w' → Int64 (nth l k) →
      Calls Try.prog fid (#[.int .i64 (nth l k)] ++ caps) w' fun e w'' => e = .returned (.bool (p (nth l k))) ∧ Ext w' w'') :
    Calls Try.prog 209 #[.slice a l.length c, .func (.func fid) #[] caps] w fun e w' => e = .returned (.int .i64 (findIx p l)) ∧ Ext w w' := by
  have hn := R_len h
  obtain ⟨_, _, _, _, hs⟩ := R_sl.1 h
  clear h
  have HP := Lib.hid hp
  clear hp
  go_enter Try.func209, Try.ntmps209
  go_wp2
  go_loopw [8] (fun i wr => ∃ k : Nat, k ≤ l.length ∧ i = .int .i64 k ∧ (∀ j, j < k → p (nth l j) = false) ∧ Ext w wr) (fun i _ => l.length - (intOf i).toNat)
  case atStart => exact ⟨0, Nat.zero_le _, rfl, by omega, Ext.refl _⟩
  case round =>
    obtain ⟨k, hk, rfl, hj, hb⟩ := hrel
    have HJ := Lib.hid hj
    clear hj
    by_cases hlt : k < l.length
    · obtain ⟨b, o, rfl, hbs, hel⟩ := hs.get (by omega)
      obtain ⟨hc0, hR⟩ := at_int ((hel k hlt).ext hb hbs)
      simp only [tInt, Nat.mul_one] at hc0
      have HR := Lib.hid hR
      clear hel hR
      have hf' := hf
      unfold Plainf at hf'
      go_wp2_with fail
      refine (HP.out k hlt _ hb HR.out).mono ?_
      rintro e w2 ⟨rfl, hx⟩
      have hb2 := hb.trans hx
      by_cases hq : p (nth l k) = true
      · have HQ := Lib.hid (findIx_at p hlt HJ.out hq)
        rw [hq]
        clear hf' hq
        go_wp2
        go_ret
        exact ⟨ret_int (by rw [HQ.out]), hb2⟩
      · rw [Bool.not_eq_true] at hq
        have HQ := Lib.hid hq
        rw [hq]
        clear hf' hq
        go_wp2
        go_roundw
        case rel => exact ⟨k + 1, by omega, by go_num, fun j hj => by by_cases e : j = k; (rw [e]; exact HQ.out); exact HJ.out j (by omega), hb2⟩
        case measure => simp [intOf]; omega
    · obtain rfl : k = l.length := by omega
      have HQ := Lib.hid (findIx_not p (all_nth HJ.out))
      go_wp2
      go_ret
      exact ⟨ret_int (by rw [HQ.out]), hb⟩

theorem ContainsFunc_Int_c (w : World) (a : Option Addr) (c : Nat) (l : List Int) (h : (tSl tInt).R w l [.slice a l.length c]) (fid : FuncId) (caps : Array Value) (p : Int → Bool) (hf : Plainf Try.prog fid)
    (hp : ∀ k, k < l.length → ∀ w', Ext w w' → Int64 (nth l k) →
      Calls Try.prog fid (#[.int .i64 (nth l k)] ++ caps) w' fun e w'' => e = .returned (.bool (p (nth l k))) ∧ Ext w' w'') :
    Calls Try.prog 173 #[.slice a l.length c, .func (.func fid) #[] caps] w fun e w' => e = .returned (.bool (l.any p)) ∧ Ext w w' := by
  have HP := Lib.hid hp
  have HQ := Lib.hid (findIx_any p l)
  clear hp
  go_enter Try.func173, Try.ntmps173
  go_wp2_with fail
  refine (IndexFunc_Int_c _ _ _ _ h _ _ _ hf HP.out).mono ?_
  rintro e w1 ⟨rfl, hx⟩
  go_wp2
  go_ret
  exact ⟨ret_bool (by rw [← HQ.out]), hx⟩

set_option maxHeartbeats 800000 in
theorem IndexFunc_Sig_c (w : World) (a : Option Addr) (c : Nat) (l : List Sig) (h : (tSl tSig).R w l [.slice a l.length c]) (fid : FuncId) (caps : Array Value) (p : Sig → Bool) (hf : Plainf Try.prog fid)
    (hp : ∀ k, k < l.length → ∀ w', Ext w w' → tSig.R w' (nth l k) [.string (nth l k).name, .int .i64 (nth l k).kind] →
      Calls Try.prog fid (#[.agg #[.string (nth l k).name, .int .i64 (nth l k).kind]] ++ caps) w' fun e w'' => e = .returned (.bool (p (nth l k))) ∧ Ext w' w'') :
    Calls Try.prog 234 #[.slice a l.length c, .func (.func fid) #[] caps] w fun e w' => e = .returned (.int .i64 (findIx p l)) ∧ Ext w w' := by
  have hn := R_len h
  obtain ⟨_, _, _, _, hs⟩ := R_sl.1 h
  clear h
  have HP := Lib.hid hp
  clear hp
  go_enter Try.func234, Try.ntmps234
  go_wp2
  go_loopw [8] (fun i wr => ∃ k : Nat, k ≤ l.length ∧ i = .int .i64 k ∧ (∀ j, j < k → p (nth l j) = false) ∧ Ext w wr) (fun i _ => l.length - (intOf i).toNat)
  case atStart => exact ⟨0, Nat.zero_le _, rfl, by omega, Ext.refl _⟩
  case round =>
    obtain ⟨k, hk, rfl, hj, hb⟩ := hrel
    have HJ := Lib.hid hj
    clear hj
    by_cases hlt : k < l.length
    · obtain ⟨b, o, rfl, hbs, hel⟩ := hs.get (by omega)
      obtain ⟨_, hc0, hc1, hR⟩ := at_Sig ((hel k hlt).ext hb hbs)
      simp only [show tSig.n = 2 from rfl] at hc0 hc1
      have HR := Lib.hid hR
      clear hel hR
      have hf' := hf
      unfold Plainf at hf'
      go_wp2_with fail
      refine (HP.out k hlt _ hb HR.out).mono ?_
      rintro e w2 ⟨rfl, hx⟩
      have hb2 := hb.trans hx
      by_cases hq : p (nth l k) = true
      · have HQ := Lib.hid (findIx_at p hlt HJ.out hq)
        rw [hq]
        clear hf' hq
        go_wp2
        go_ret
        exact ⟨ret_int (by rw [HQ.out]), hb2⟩
      · rw [Bool.not_eq_true] at hq
        have HQ := Lib.hid hq
        rw [hq]
        clear hf' hq
        go_wp2
        go_roundw
        case rel => exact ⟨k + 1, by omega, by go_num, fun j hj => by by_cases e : j = k; (rw [e]; exact HQ.out); exact HJ.out j (by omega), hb2⟩
        case measure => simp [intOf]; omega
    · obtain rfl : k = l.length := by omega
      have HQ := Lib.hid (findIx_not p (all_nth HJ.out))
      go_wp2
      go_ret
      exact ⟨ret_int (by rw [HQ.out]), hb⟩

theorem ContainsFunc_Sig_c (w : World) (a : Option Addr) (c : Nat) (l : List Sig) (h : (tSl tSig).R w l [.slice a l.length c]) (fid : FuncId) (caps : Array Value) (p : Sig → Bool) (hf : Plainf Try.prog fid)
    (hp : ∀ k, k < l.length → ∀ w', Ext w w' → tSig.R w' (nth l k) [.string (nth l k).name, .int .i64 (nth l k).kind] →
      Calls Try.prog fid (#[.agg #[.string (nth l k).name, .int .i64 (nth l k).kind]] ++ caps) w' fun e w'' => e = .returned (.bool (p (nth l k))) ∧ Ext w' w'') :
    Calls Try.prog 219 #[.slice a l.length c, .func (.func fid) #[] caps] w fun e w' => e = .returned (.bool (l.any p)) ∧ Ext w w' := by
  have HP := Lib.hid hp
  have HQ := Lib.hid (findIx_any p l)
  clear hp
  go_enter Try.func219, Try.ntmps219
  go_wp2_with fail
  refine (IndexFunc_Sig_c _ _ _ _ h _ _ _ hf HP.out).mono ?_
  rintro e w1 ⟨rfl, hx⟩
  go_wp2
  go_ret
  exact ⟨ret_bool (by rw [← HQ.out]), hx⟩

set_option maxHeartbeats 800000 in
theorem Index_Int_c (w : World) (a : Option Addr) (c : Nat) (l : List Int) (h : (tSl tInt).R w l [.slice a l.length c]) (x : Int) :
    Calls Try.prog 192 #[.slice a l.length c, .int .i64 x] w fun e w' => e = .returned (.int .i64 (findIx (fun y => decide (y = x)) l)) ∧ Ext w w' := by
  have hn := R_len h
  obtain ⟨_, _, _, _, hs⟩ := R_sl.1 h
  clear h
  go_enter Try.func192, Try.ntmps192
  go_wp2
  go_loopw [8] (fun i wr => ∃ k : Nat, k ≤ l.length ∧ i = .int .i64 k ∧ (∀ j, j < k → (fun y => decide (y = x)) (nth l j) = false) ∧ Ext w wr) (fun i _ => l.length - (intOf i).toNat)
  case atStart => exact ⟨0, Nat.zero_le _, rfl, by omega, Ext.refl _⟩
  case round =>
    obtain ⟨k, hk, rfl, hj, hb⟩ := hrel
    have HJ := Lib.hid hj
    clear hj
    by_cases hlt : k < l.length
    · obtain ⟨b, o, rfl, hbs, hel⟩ := hs.get (by omega)
      obtain ⟨hc0, hR⟩ := at_int ((hel k hlt).ext hb hbs)
      simp only [tInt, Nat.mul_one] at hc0
      clear hel hR
      by_cases hq : nth l k = x
      · have HQ := Lib.hid (findIx_at (fun y => decide (y = x)) hlt HJ.out (by simp [hq]))
        have HM : Hid (x ∈ l) := Lib.hid (hq ▸ nth_mem hlt)
        have hz : (nth l k == x) = true := by rw [hq]; simp
        clear hq
        go_wp2
        go_ret
        exact ⟨ret_int (by rw [HQ.out]), hb⟩
      · have HQ := Lib.hid hq
        have hz : (nth l k == x) = false := by rw [beq_eq_false_iff_ne]; exact hq
        clear hq
        go_wp2
        go_roundw
        case rel => exact ⟨k + 1, by omega, by go_num, fun j hj => by by_cases e : j = k; (rw [e]; simp [HQ.out]); exact HJ.out j (by omega), hb⟩
        case measure => simp [intOf]; omega
    · obtain rfl : k = l.length := by omega
      have HQ := Lib.hid (findIx_not (fun y => decide (y = x)) (all_nth (q := fun y => (fun y => decide (y = x)) y = false) HJ.out))
      have HM : Hid (x ∉ l) := Lib.hid (fun hm => by have := all_nth (q := fun y => (fun y => decide (y = x)) y = false) HJ.out x hm; simp at this)
      go_wp2
      go_ret
      exact ⟨ret_int (by rw [HQ.out]), hb⟩

set_option maxHeartbeats 800000 in
theorem l1Has_c (w : World) (a : Option Addr) (c : Nat) (l : List Int) (h : (tSl tInt).R w l [.slice a l.length c]) (x : Int) :
    Calls Try.prog 156 #[.slice a l.length c, .int .i64 x] w fun e w' => e = .returned (.bool (decide (x ∈ l))) ∧ Ext w w' := by
  have hn := R_len h
  obtain ⟨_, _, _, _, hs⟩ := R_sl.1 h
  clear h
  go_enter Try.func156, Try.ntmps156
  go_wp2
  go_loopw [9] (fun i wr => ∃ k : Nat, k ≤ l.length ∧ i = .int .i64 k ∧ (∀ j, j < k → (fun y => decide (y = x)) (nth l j) = false) ∧ Ext w wr) (fun i _ => l.length - (intOf i).toNat)
  case atStart => exact ⟨0, Nat.zero_le _, rfl, by omega, Ext.refl _⟩
  case round =>
    obtain ⟨k, hk, rfl, hj, hb⟩ := hrel
    have HJ := Lib.hid hj
    clear hj
    by_cases hlt : k < l.length
    · obtain ⟨b, o, rfl, hbs, hel⟩ := hs.get (by omega)
      obtain ⟨hc0, hR⟩ := at_int ((hel k hlt).ext hb hbs)
      simp only [tInt, Nat.mul_one] at hc0
      clear hel hR
      by_cases hq : nth l k = x
      · have HQ := Lib.hid (findIx_at (fun y => decide (y = x)) hlt HJ.out (by simp [hq]))
        have HM : Hid (x ∈ l) := Lib.hid (hq ▸ nth_mem hlt)
        have hz : (nth l k == x) = true := by rw [hq]; simp
        clear hq
        go_wp2
        go_ret
        exact ⟨ret_bool (by simp [HM.out]), hb⟩
      · have HQ := Lib.hid hq
        have hz : (nth l k == x) = false := by rw [beq_eq_false_iff_ne]; exact hq
        clear hq
        go_wp2
        go_roundw
        case rel => exact ⟨k + 1, by omega, by go_num, fun j hj => by by_cases e : j = k; (rw [e]; simp [HQ.out]); exact HJ.out j (by omega), hb⟩
        case measure => simp [intOf]; omega
    · obtain rfl : k = l.length := by omega
      have HQ := Lib.hid (findIx_not (fun y => decide (y = x)) (all_nth (q := fun y => (fun y => decide (y = x)) y = false) HJ.out))
      have HM : Hid (x ∉ l) := Lib.hid (fun hm => by have := all_nth (q := fun y => (fun y => decide (y = x)) y = false) HJ.out x hm; simp at this)
      go_wp2
      go_ret
      exact ⟨ret_bool (by simp [HM.out]), hb⟩

theorem Contains_Int_c (w : World) (a : Option Addr) (c : Nat) (l : List Int) (h : (tSl tInt).R w l [.slice a l.length c]) (x : Int) :
    Calls Try.prog 142 #[.slice a l.length c, .int .i64 x] w fun e w' => e = .returned (.bool (decide (x ∈ l))) ∧ Ext w w' := by
  have HQ : Hid (decide (0 ≤ findIx (fun y => decide (y = x)) l) = decide (x ∈ l)) := Lib.hid (by rw [findIx_any]; exact any_mem l x)
  go_enter Try.func142, Try.ntmps142
  go_wp2_with fail
  refine (Index_Int_c _ _ _ _ h _).mono ?_
  rintro e w1 ⟨rfl, hx⟩
  go_wp2
  go_ret
  exact ⟨ret_bool (by rw [← HQ.out]), hx⟩
end Go.Proofs.Ytboimpalblicnaa
