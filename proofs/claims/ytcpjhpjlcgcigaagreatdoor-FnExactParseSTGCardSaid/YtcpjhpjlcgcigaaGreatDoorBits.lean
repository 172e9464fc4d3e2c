/- Strings of 0 and 1; IsValidMarking, the reference's and the program's: both answer goodMark. -/
import Derived.Test.YtcpjhpjlcgcigaaGreatDoorNetX
set_option linter.unusedSimpArgs false
set_option linter.unusedVariables false
namespace Go.Proofs.YtcpjhpjlcgcigaaGreatDoor
open Go.ChangeShapes Go.WideShapes Go.ChangeAt Go.RowKit

def isBit (c : UInt8) : Bool := c == 48 || c == 49
def bitsB (s : ByteArray) (n : Int) : Bool := s.data.toList.all isBit && decide ((s.size : Int) = n)
def goodMark (n : NetD) (s : ByteArray) : Bool := goodNet n && bitsB s n.places

theorem bit_of {c : UInt8} (h : ((c.toNat : Int) != 48) = false ∨ ((c.toNat : Int) != 49) = false) : isBit c = true := by
  unfold isBit
  rcases h with h | h
  · have : c = 48 := by apply UInt8.toNat_inj.1; show c.toNat = 48; simp at h; omega
    simp [this]
  · have : c = 49 := by apply UInt8.toNat_inj.1; show c.toNat = 49; simp at h; omega
    simp [this]
theorem bit_not {c : UInt8} (h : ((c.toNat : Int) != 48) = true) (h' : ((c.toNat : Int) != 49) = true) : isBit c = false := by
  unfold isBit
  have h1 : c ≠ 48 := by intro e; subst e; simp at h
  have h2 : c ≠ 49 := by intro e; subst e; simp at h'
  simp [h1, h2]
theorem str_all_not {s : ByteArray} {k : Nat} (hk : k < s.size) (h : isBit s[k] = false) : s.data.toList.all isBit = false := by
  rw [List.all_eq_false]
  exact ⟨s[k], by simp [ByteArray.getElem_eq_getElem_data], by simp [h]⟩
theorem str_all {s : ByteArray} (h : ∀ k, (hk : k < s.size) → isBit s[k] = true) : s.data.toList.all isBit = true := by
  rw [List.all_eq_true]
  intro x hx
  obtain ⟨i, hi, rfl⟩ := List.getElem_of_mem hx
  have := h i (by simpa using hi)
  simpa [ByteArray.getElem_eq_getElem_data] using this

set_option maxHeartbeats 400000 in
theorem isBits_c (w : World) (s : ByteArray) (n : Int) (hs : s.size ≤ 1048576) :
    Calls Tryz.prog 88 #[.string s, .int .i64 n] w fun e w' => e = .returned (.bool (bitsB s n)) ∧ Ext w w' := by
  have HB : Hid (bitsB s n = (s.data.toList.all isBit && decide ((s.size : Int) = n))) := Lib.hid rfl
  go_enter Tryz.func88, Tryz.ntmps88
  go_wp2
  go_loopw [5] (fun i wr => ∃ k : Nat, k ≤ s.size ∧ i = .int .i64 k ∧ (∀ j, (hj : j < s.size) → j < k → isBit s[j] = true) ∧ Ext w wr) (fun i _ => s.size - (intOf i).toNat)
  case atStart => exact ⟨0, Nat.zero_le _, rfl, by omega, Ext.refl _⟩
  case round =>
    obtain ⟨k, hk, rfl, hj, hb⟩ := hrel
    have HJ := Lib.hid hj
    clear hj
    by_cases hlt : k < s.size
    · cases h0 : ((s[k].toNat : Int) != 48)
      · have HQ := Lib.hid (bit_of (Or.inl h0))
        go_wp2
        go_roundw
        case rel => exact ⟨k + 1, by omega, by go_num, fun j hj hjk => by by_cases e : j = k; (subst e; exact HQ.out); exact HJ.out j hj (by omega), by first | exact hb | exact hb.drewN _⟩
        case measure => simp [intOf]; omega
      · cases h1 : ((s[k].toNat : Int) != 49)
        · have HQ := Lib.hid (bit_of (Or.inr h1))
          go_wp2
          go_roundw
          case rel => exact ⟨k + 1, by omega, by go_num, fun j hj hjk => by by_cases e : j = k; (subst e; exact HQ.out); exact HJ.out j hj (by omega), by first | exact hb | exact hb.drewN _⟩
          case measure => simp [intOf]; omega
        · have HQ := Lib.hid (str_all_not hlt (bit_not h0 h1))
          go_wp2
          go_ret
          exact ⟨ret_bool (by rw [HB.out, HQ.out]; rfl), by first | exact hb | exact hb.drewN _⟩
    · obtain rfl : k = s.size := by omega
      have HQ := Lib.hid (str_all (fun j hj => HJ.out j hj hj))
      go_wp2
      go_ret
      exact ⟨ret_bool (by rw [HB.out, HQ.out]; simp [Bool.beq_eq_decide_eq]), by first | exact hb | exact hb.drewN _⟩

set_option maxHeartbeats 400000 in
theorem l1Mark_c (w : World) (a : Option Addr) (c : Nat) (x : NetD) (s : ByteArray) (hs : s.size ≤ 1048576) :
    Calls Tryz.prog 33 #[.agg #[.int .i64 x.places, .slice a x.trs.length c], .string s] w fun e w' => e = .returned (.bool (bitsB s x.places)) ∧ Ext w w' := by
  have HB : Hid (bitsB s x.places = (s.data.toList.all isBit && decide ((s.size : Int) = x.places))) := Lib.hid rfl
  have hE0 : Ext w (w.alloc (.cells #[.int .i64 x.places, .slice a x.trs.length c] 24)) := (Ext.refl w).alloc _
  have hcb := cell_box w #[.int .i64 x.places, .slice a x.trs.length c] 24 0
  go_enter Tryz.func33, Tryz.ntmps33
  go_wp2
  go_loopw [5] (fun i wr => ∃ k : Nat, k ≤ s.size ∧ i = .int .i64 k ∧ (∀ j, (hj : j < s.size) → j < k → isBit s[j] = true) ∧ Ext (w.alloc (.cells #[.int .i64 x.places, .slice a x.trs.length c] 24)) wr) (fun i _ => s.size - (intOf i).toNat)
  case atStart => exact ⟨0, Nat.zero_le _, rfl, by omega, Ext.refl _⟩
  case round =>
    obtain ⟨k, hk, rfl, hj, hb⟩ := hrel
    have HJ := Lib.hid hj
    clear hj
    by_cases hlt : k < s.size
    · cases h0 : ((s[k].toNat : Int) != 48)
      · have HQ := Lib.hid (bit_of (Or.inl h0))
        go_wp2
        go_roundw
        case rel => exact ⟨k + 1, by omega, by go_num, fun j hj hjk => by by_cases e : j = k; (subst e; exact HQ.out); exact HJ.out j hj (by omega), by first | exact hb | exact hb.drewN _⟩
        case measure => simp [intOf]; omega
      · cases h1 : ((s[k].toNat : Int) != 49)
        · have HQ := Lib.hid (bit_of (Or.inr h1))
          go_wp2
          go_roundw
          case rel => exact ⟨k + 1, by omega, by go_num, fun j hj hjk => by by_cases e : j = k; (subst e; exact HQ.out); exact HJ.out j hj (by omega), by first | exact hb | exact hb.drewN _⟩
          case measure => simp [intOf]; omega
        · have HQ := Lib.hid (str_all_not hlt (bit_not h0 h1))
          go_wp2
          go_ret
          exact ⟨ret_bool (by rw [HB.out, HQ.out]; rfl), by first | exact hE0.trans hb | exact hE0.trans (hb.drewN _)⟩
    · obtain rfl : k = s.size := by omega
      have HQ := Lib.hid (str_all (fun j hj => HJ.out j hj hj))
      have hcw : wr.cell? ⟨w.heap.size, 0, none⟩ = some (.int .i64 x.places) := by rw [hb.cell (by simp)]; exact hcb
      go_wp2
      go_ret
      exact ⟨ret_bool (by rw [HB.out, HQ.out]; simp [Bool.beq_eq_decide_eq]), by first | exact hE0.trans hb | exact hE0.trans (hb.drewN _)⟩

set_option maxHeartbeats 400000 in
theorem IsValidMarking_c (w : World) (a : Option Addr) (c : Nat) (x : NetD) (h : tNetD.R w x [.int .i64 x.places, .slice a x.trs.length c]) (s : ByteArray) (hs : s.size ≤ 1048576) :
    Calls Tryz.prog 66 #[.agg #[.int .i64 x.places, .slice a x.trs.length c], .string s] w fun e w' => e = .returned (.bool (goodMark x s)) ∧ Ext w w' := by
  have HB : Hid (goodMark x s = (goodNet x && bitsB s x.places)) := Lib.hid rfl
  have hE0 : Ext w (w.alloc (.cells #[.int .i64 x.places, .slice a x.trs.length c] 24)) := (Ext.refl w).alloc _
  go_enter Tryz.func66, Tryz.ntmps66
  go_wp2_with fail
  refine (IsValidNet_c _ _ _ _ (h.ext hE0)).mono ?_
  rintro e w1 ⟨rfl, hx⟩
  have hcb : w1.cell? ⟨w.heap.size, 0, none⟩ = some (.int .i64 x.places) := by rw [hx.cell (by simp)]; exact cell_box _ _ _ _
  cases hg : goodNet x
  all_goals have HG := Lib.hid hg
  all_goals clear hg
  · go_wp2
    go_ret
    exact ⟨ret_bool (by rw [HB.out, HG.out]; rfl), hE0.trans hx⟩
  · go_wp2_with fail
    refine (isBits_c _ _ _ hs).mono ?_
    rintro e w2 ⟨rfl, hx2⟩
    go_wp2
    go_ret
    exact ⟨ret_bool (by rw [HB.out, HG.out]; simp), (hE0.trans hx).trans hx2⟩

end Go.Proofs.YtcpjhpjlcgcigaaGreatDoor
