/- Reading lines: cutting a text, small numbers. The reference's functions. No condition. -/
import Derived.Test.YtcpjhpjlcgcigaaGreatDoorStg
import Derived.Test.YtcpjhpjlcgcigaaGreatDoorAbsY
set_option linter.unusedSimpArgs false
set_option linter.unusedVariables false
set_option maxHeartbeats 2000000
namespace Go.Proofs.YtcpjhpjlcgcigaaGreatDoor
open Go.ChangeShapes Go.WideShapes Go.ChangeAt Go.RowKit

/-! ### A text, cut at a byte -/
/-- The pieces that end ahead of place k, and where the next begins. -/
def cutS (s : ByteArray) (b : Int) : Nat → List ByteArray × Nat
  | 0 => ([], 0)
  | k + 1 => if bAt s k = b then ((cutS s b k).1 ++ [s.extract (cutS s b k).2 k], k + 1) else cutS s b k
def splitS (s : ByteArray) (b : Int) : List ByteArray := (cutS s b s.size).1 ++ [s.extract (cutS s b s.size).2 s.size]
theorem cutS_le (s : ByteArray) (b : Int) : ∀ k, (cutS s b k).2 ≤ k
  | 0 => Nat.le_refl _
  | k + 1 => by
    unfold cutS
    split
    · exact Nat.le_refl _
    · exact Nat.le_succ_of_le (cutS_le s b k)
theorem cutS_len (s : ByteArray) (b : Int) : ∀ k, (cutS s b k).1.length ≤ k
  | 0 => Nat.le_refl _
  | k + 1 => by
    unfold cutS
    split
    · simp only [List.length_append, List.length_singleton]; exact Nat.succ_le_succ (cutS_len s b k)
    · exact Nat.le_succ_of_le (cutS_len s b k)
theorem cutS_yes {s : ByteArray} {b : Int} {k : Nat} (h : bAt s k = b) : cutS s b (k + 1) = ((cutS s b k).1 ++ [s.extract (cutS s b k).2 k], k + 1) := by rw [cutS, if_pos h]
theorem cutS_no {s : ByteArray} {b : Int} {k : Nat} (h : ¬ bAt s k = b) : cutS s b (k + 1) = cutS s b k := by rw [cutS, if_neg h]
theorem strs_app (l : List ByteArray) (x : ByteArray) : strs (l ++ [x]) = strs l ++ [[.lit (.string x)]] := by simp [strs]
theorem l1Split_f (s : ByteArray) (b : Int) (hs : s.size ≤ 1048576) : Fn Tryz.prog 9 [.lit (.string s), .lit (.int .u8 b)] (.own 0) [.arr 9 1 (strs (splitS s b)) true] := by
  refine Fn_of Tryz.func9 rfl (by kernel_rfl) rfl rfl ?_
  intro w0 A hin
  repeat' (first | refine goZ ?_ | ((first | refine R_cond rfl (fun hq => ?_) fun hq => ?_ | refine R_guardT rfl rfl rfl (fun hq => ?_) fun hq => ?_ | refine R_guardF rfl rfl rfl (fun hq => ?_) fun hq => ?_ | refine D_guardT rfl rfl rfl (fun hq => ?_) fun hq => ?_ | refine D_guardF rfl rfl rfl (fun hq => ?_) fun hq => ?_) <;> (try rw [hq]) <;> first | have hp := of_decide_eq_true hq | have hp := of_decide_eq_false hq | have hp := of_decide_eq_false (not_t hq) | have hp := of_decide_eq_true (not_f hq) | have hp := hq))
  refine W_open 5 9 1 rfl ?_
  refine W_loop (fun k : Nat => ⟨_, [(0, .lit (.string s)), (1, .lit (.int .u8 b)), (5, .own 0), (6, .lit (.int .i64 (cutS s b k).2)), (7, .lit (.int .i64 k))], [.arr 9 1 (strs (cutS s b k).1) true]⟩) (fun k => k ≤ s.size) (fun k => s.size - k) 0 (Nat.zero_le _) (weakZ []) ?_
  intro k hk
  have h1 := cutS_le s b k
  have h2 := cutS_len s b k
  have h3 := len_strs (cutS s b k).1
  repeat' (first | refine goZ ?_ | ((first | refine R_cond rfl (fun hq => ?_) fun hq => ?_ | refine R_guardT rfl rfl rfl (fun hq => ?_) fun hq => ?_ | refine R_guardF rfl rfl rfl (fun hq => ?_) fun hq => ?_ | refine D_guardT rfl rfl rfl (fun hq => ?_) fun hq => ?_ | refine D_guardF rfl rfl rfl (fun hq => ?_) fun hq => ?_) <;> (try rw [hq]) <;> first | have hp := of_decide_eq_true hq | have hp := of_decide_eq_false hq | have hp := of_decide_eq_false (not_t hq) | have hp := of_decide_eq_true (not_f hq) | have hp := hq))
  · refine ⟨k + 1, by omega, by omega, ?_⟩
    simp only [cutS_yes hp, strs_app, Int.toNat_natCast]
    exact weakZ _
  · refine ⟨k + 1, by omega, by omega, ?_⟩
    simp only [cutS_no hp]
    exact weakZ _
  · have e : k = s.size := by omega
    subst e
    simp only [Int.toNat_natCast, splitS, strs_app]
    exact ret_own rfl rfl rfl
theorem splitS_pos (s : ByteArray) (b : Int) : 1 ≤ (splitS s b).length := by simp [splitS]
theorem splitS_len (s : ByteArray) (b : Int) : (splitS s b).length ≤ s.size + 1 := by
  have := cutS_len s b s.size
  simp [splitS]; omega
theorem cutS_size {s : ByteArray} {b : Int} : ∀ {k : Nat} {x : ByteArray}, x ∈ (cutS s b k).1 → x.size ≤ s.size
  | 0, x, h => by simp [cutS] at h
  | k + 1, x, h => by
    unfold cutS at h
    split at h
    · simp only [List.mem_append, List.mem_singleton] at h
      rcases h with h | rfl
      · exact cutS_size h
      · rw [ByteArray.size_extract]; omega
    · exact cutS_size h
theorem splitS_size {s : ByteArray} {b : Int} {x : ByteArray} (h : x ∈ splitS s b) : x.size ≤ s.size := by
  simp only [splitS, List.mem_append, List.mem_singleton] at h
  rcases h with h | rfl
  · exact cutS_size h
  · rw [ByteArray.size_extract]; omega
/-! ### Numbers of at most two digits -/
def digB (s : ByteArray) (k : Nat) : Bool := decide (48 ≤ bAt s k ∧ bAt s k ≤ 57)
def valS (s : ByteArray) : Nat → Int
  | 0 => 0
  | k + 1 => 10 * valS s k + (bAt s k - 48)
def digsB (s : ByteArray) (k : Nat) : Bool := decide (∀ j, j < k → digB s j = true)
def readS (s : ByteArray) : Int := if 1 ≤ s.size ∧ s.size ≤ 6 ∧ ¬ (bAt s 0 = 48 ∧ 1 < s.size) ∧ digsB s s.size = true then valS s s.size else -1
def twoS (s : ByteArray) : Int := if s.size ≤ 2 then readS s else -1
theorem valS_range (s : ByteArray) : ∀ k, (∀ j, j < k → digB s j = true) → 0 ≤ valS s k ∧ valS s k < 10 ^ k
  | 0, _ => by simp [valS]
  | k + 1, h => by
    have h1 := valS_range s k fun j hj => h j (by omega)
    have h2 := h k (by omega)
    rw [digB, decide_eq_true_eq] at h2
    rw [valS, Int.pow_succ]
    omega
theorem valS_small (s : ByteArray) {k : Nat} (hk : k ≤ 6) (h : ∀ j, j < k → digB s j = true) : 0 ≤ valS s k ∧ valS s k < 1000000 := by
  have h1 := valS_range s k h
  have : (10 : Int) ^ k ≤ 10 ^ 6 := by
    have : ∀ k : Nat, k ≤ 6 → (10 : Int) ^ k ≤ 10 ^ 6 := by decide
    exact this k hk
  omega
theorem bAt_range (s : ByteArray) (i : Int) : 0 ≤ bAt s i ∧ bAt s i ≤ 255 := by
  unfold bAt
  have := ((s[i.toNat]?).getD 0).toNat_lt
  omega
theorem digs_no {s : ByteArray} {n k : Nat} (hk : k < n) (h : ¬ (48 ≤ bAt s k ∧ bAt s k ≤ 57)) (h2 : digsB s n = true) : False := by
  rw [digsB, decide_eq_true_eq] at h2
  have := h2 k hk
  rw [digB, decide_eq_true_eq] at this
  exact h this
theorem l1Read_f (s : ByteArray) : Fn Tryz.prog 75 [.lit (.string s)] (.lit (.int .i64 (readS s))) [] := by
  refine Fn_of Tryz.func75 rfl (by kernel_rfl) rfl rfl ?_
  intro w0 A hin
  have hb0 := bAt_range s 0
  repeat' (first | refine goZ ?_ | refine R_callZ rfl (l1In_f _ _ _) rfl rfl rfl ?_ | refine R_callvZ rfl (l1In_f _ _ _) rfl rfl rfl rfl ?_ | refine D_callZ rfl (l1In_f _ _ _) rfl rfl rfl ?_ | ((first | refine R_cond rfl (fun hq => ?_) fun hq => ?_ | refine R_guardT rfl rfl rfl (fun hq => ?_) fun hq => ?_ | refine R_guardF rfl rfl rfl (fun hq => ?_) fun hq => ?_ | refine D_guardT rfl rfl rfl (fun hq => ?_) fun hq => ?_ | refine D_guardF rfl rfl rfl (fun hq => ?_) fun hq => ?_) <;> (try rw [hq]) <;> first | have hp := of_decide_eq_true hq | have hp := of_decide_eq_false hq | have hp := of_decide_eq_false (not_t hq) | have hp := of_decide_eq_true (not_f hq) | have hp := hq))
  all_goals try exact ret_lit rfl (by rw [readS, if_neg]; simp_all <;> omega)
  all_goals
    have hsz : 1 ≤ s.size ∧ s.size ≤ 6 ∧ ¬ (bAt s 0 = 48 ∧ 1 < s.size) := by simp_all <;> omega
    refine W_loop (fun k : Nat => ⟨_, [(0, .lit (.string s)), (3, .lit (.int .i64 (valS s k))), (4, .lit (.int .i64 k))], []⟩) (fun k => k ≤ s.size ∧ ∀ j, j < k → digB s j = true) (fun k => s.size - k) 0 ⟨Nat.zero_le _, by omega⟩ (weakZ []) ?_
    rintro k ⟨hk, hj⟩
    have hv := valS_small s (show k ≤ 6 by omega) hj
    have hbk := bAt_range s k
    have hw : IntKind.i64.wrap (bAt s k - 48) = bAt s k - 48 := wrap_i64 (by omega)
    repeat' (first | refine goZ ?_ | ((first | refine R_cond rfl (fun hq => ?_) fun hq => ?_ | refine R_guardT rfl rfl rfl (fun hq => ?_) fun hq => ?_ | refine R_guardF rfl rfl rfl (fun hq => ?_) fun hq => ?_ | refine D_guardT rfl rfl rfl (fun hq => ?_) fun hq => ?_ | refine D_guardF rfl rfl rfl (fun hq => ?_) fun hq => ?_) <;> (try rw [hq]) <;> first | have hp := of_decide_eq_true hq | have hp := of_decide_eq_false hq | have hp := of_decide_eq_false (not_t hq) | have hp := of_decide_eq_true (not_f hq) | have hp := hq))
    · exact ret_lit rfl (by rw [readS, if_neg fun h => digs_no (k := k) (by omega) (by omega) h.2.2.2])
    · refine ⟨k + 1, ⟨by omega, fun j hj' => ?_⟩, by omega, weakZ _⟩
      by_cases e : j = k
      · subst e; rw [digB, decide_eq_true_eq]; omega
      · exact hj j (by omega)
    · exact ret_lit rfl (by rw [readS, if_neg fun h => digs_no (k := k) (by omega) (by omega) h.2.2.2])
    · have e : k = s.size := by omega
      subst e
      exact ret_lit rfl (by rw [readS, if_pos ⟨hsz.1, hsz.2.1, hsz.2.2, by rw [digsB, decide_eq_true_eq]; exact hj⟩])
theorem l3Two_f (s : ByteArray) (hs : s.size ≤ 1048576) : Fn Tryz.prog 54 [.lit (.string s)] (.lit (.int .i64 (twoS s))) [] := by
  refine Fn_of Tryz.func54 rfl (by kernel_rfl) rfl rfl ?_
  intro w0 A hin
  repeat' (first | refine goZ ?_ | refine R_callZ rfl (l1Read_f s) rfl rfl rfl ?_ | refine R_callvZ rfl (l1Read_f s) rfl rfl rfl rfl ?_ | refine D_callZ rfl (l1Read_f s) rfl rfl rfl ?_ | ((first | refine R_cond rfl (fun hq => ?_) fun hq => ?_ | refine R_guardT rfl rfl rfl (fun hq => ?_) fun hq => ?_ | refine R_guardF rfl rfl rfl (fun hq => ?_) fun hq => ?_ | refine D_guardT rfl rfl rfl (fun hq => ?_) fun hq => ?_ | refine D_guardF rfl rfl rfl (fun hq => ?_) fun hq => ?_) <;> (try rw [hq]) <;> first | have hp := of_decide_eq_true hq | have hp := of_decide_eq_false hq | have hp := of_decide_eq_false (not_t hq) | have hp := of_decide_eq_true (not_f hq) | have hp := hq))
  · exact ret_lit rfl (by rw [twoS, if_neg (by omega)])
  · exact ret_lit rfl (by rw [twoS, if_pos (by omega)])
theorem l3WordsP_f : Fn Tryz.prog 55 [] (.own 0) [.arr 9 1 (strs [⟨#[]⟩, ⟨#[105, 110]⟩, ⟨#[111, 117, 116]⟩, ⟨#[105, 110, 110, 101, 114]⟩]) true] := by
  refine Fn_of Tryz.func55 rfl (by kernel_rfl) rfl rfl ?_
  intro w0 A hin
  repeat' (first | refine goZ ?_ | ((first | refine R_cond rfl (fun hq => ?_) fun hq => ?_ | refine R_guardT rfl rfl rfl (fun hq => ?_) fun hq => ?_ | refine R_guardF rfl rfl rfl (fun hq => ?_) fun hq => ?_ | refine D_guardT rfl rfl rfl (fun hq => ?_) fun hq => ?_ | refine D_guardF rfl rfl rfl (fun hq => ?_) fun hq => ?_) <;> (try rw [hq]) <;> first | have hp := of_decide_eq_true hq | have hp := of_decide_eq_false hq | have hp := of_decide_eq_false (not_t hq) | have hp := of_decide_eq_true (not_f hq) | have hp := hq))
  exact ret_own rfl rfl rfl
end Go.Proofs.YtcpjhpjlcgcigaaGreatDoor
