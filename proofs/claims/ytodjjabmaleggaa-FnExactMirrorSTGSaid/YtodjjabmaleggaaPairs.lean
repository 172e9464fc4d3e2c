/- Pairs of states with equal codes, pairs of arcs that leave one state with one signal: what the reference's and the program's functions hand back. No condition. -/
import Derived.Test.YtodjjabmaleggaaExc
import Derived.Test.YtodjjabmaleggaaPick
set_option linter.unusedSimpArgs false
set_option linter.unusedVariables false
set_option maxHeartbeats 2000000
namespace Go.Proofs.Ytodjjabmaleggaa
open Go.ChangeShapes Go.WideShapes Go.ChangeAt Go.RowKit

def dII (l : List Int) : List D := [.sh 1 (ints l)]
/-- The pairs of i with what is behind it and below m, as far as p takes them. -/
def rowP (p : Nat → Bool) (i m : Nat) : List (List Int) := ((List.range m).filter fun k => decide (i < k) && p k).map fun k : Nat => [(i : Int), (k : Int)]
theorem rowP_yes {p : Nat → Bool} {i m : Nat} (h : i < m) (hp : p m = true) : rowP p i (m + 1) = rowP p i m ++ [[(i : Int), (m : Int)]] := by
  simp [rowP, List.range_succ, List.filter_append, h, hp]
theorem rowP_no {p : Nat → Bool} {i m : Nat} (hp : p m = false) : rowP p i (m + 1) = rowP p i m := by
  simp [rowP, List.range_succ, List.filter_append, hp]
theorem rowP_start (p : Nat → Bool) (i : Nat) : rowP p i (i + 1) = [] := by
  simp only [rowP, List.map_eq_nil_iff, List.filter_eq_nil_iff, List.mem_range, Bool.and_eq_true, decide_eq_true_eq]
  intro k hk; omega
theorem rowP_len (p : Nat → Bool) (i m : Nat) : (rowP p i m).length ≤ m := by
  have := List.length_filter_le (fun k => decide (i < k) && p k) (List.range m)
  simpa [rowP] using this
def pairsP (p : Nat → Nat → Bool) (n : Nat) : Nat → List (List Int)
  | 0 => []
  | i + 1 => pairsP p n i ++ rowP (p i) i n
theorem pairsP_len (p : Nat → Nat → Bool) (n : Nat) : ∀ i, (pairsP p n i).length ≤ i * n
  | 0 => by simp [pairsP]
  | i + 1 => by
    have h1 := pairsP_len p n i; have h2 := rowP_len (p i) i n
    simp only [pairsP, List.length_append, Nat.add_mul]; omega
theorem row2 {l : List (List Int)} {p : Nat → Bool} {i k : Nat} (h : i < k) (hp : p k = true) : ((l ++ rowP p i (k + 1)).map dII) = (l ++ rowP p i k).map dII ++ [[.sh 1 [[.lit (.int .i64 i)], [.lit (.int .i64 k)]]]] := by
  rw [rowP_yes h hp, ← List.append_assoc, List.map_append]; rfl

def codeP (c : SGraph) (i k : Nat) : Bool := decide (nth c.codes i = nth c.codes k)
def ecL (c : SGraph) : List (List Int) := pairsP (codeP c) c.codes.length c.codes.length
noncomputable def ecR (c : SGraph) : List (List Int) := if goodSG c then ecL c else []
/-- Two arcs that leave one state with one signal. -/
def wayP (c : SGraph) (i k : Nat) : Bool := decide ((nth c.arcs i).src = (nth c.arcs k).src) && decide ((nth c.arcs i).sig = (nth c.arcs k).sig) && decide (0 ≤ (nth c.arcs i).sig) && !decide ((nth c.arcs i).dst = (nth c.arcs k).dst)
def waL (c : SGraph) : List (List Int) := pairsP (wayP c) c.arcs.length c.arcs.length
noncomputable def waR (c : SGraph) : List (List Int) := if goodSG c then waL c else []

theorem l6Pairs_f (c : SGraph) (hn : c.codes.length ≤ 300) : Fn Try.prog 172 [.agg (dSGraph c)] (.own 0) [.arr 51 1 ((ecL c).map dII) true] := by
  refine Fn_of Try.func172 rfl (by kernel_rfl) rfl rfl ?_
  intro w0 A hin
  have hz := len_strs c.codes
  repeat' (first | refine goZ ?_ | ((first | refine R_cond rfl (fun hq => ?_) fun hq => ?_ | refine R_guardT rfl rfl rfl (fun hq => ?_) fun hq => ?_ | refine R_guardF rfl rfl rfl (fun hq => ?_) fun hq => ?_ | refine D_guardT rfl rfl rfl (fun hq => ?_) fun hq => ?_ | refine D_guardF rfl rfl rfl (fun hq => ?_) fun hq => ?_) <;> (try rw [hq]) <;> first | have hp := of_decide_eq_true hq | have hp := of_decide_eq_false hq | have hp := of_decide_eq_false (not_t hq) | have hp := of_decide_eq_true (not_f hq) | have hp := hq))
  refine W_open 3 51 1 rfl ?_
  refine W_loop (fun i : Nat => ⟨_, [(1, .ptr 0 0), (3, .own 1), (8, .lit (.int .i64 c.codes.length)), (9, .lit (.int .i64 i))], [.cells 69 (dSGraph c), .arr 51 1 ((pairsP (codeP c) c.codes.length i).map dII) true]⟩) (fun i => i ≤ c.codes.length) (fun i => c.codes.length - i) 0 (Nat.zero_le _) (weakZ []) ?_
  intro i hi
  have hl1 := pairsP_len (codeP c) c.codes.length i
  have hl3 : i * c.codes.length ≤ c.codes.length * c.codes.length := Nat.mul_le_mul_right _ hi
  have hl4 : c.codes.length * c.codes.length ≤ 90000 := Nat.mul_le_mul hn hn
  repeat' (first | refine goZ ?_ | ((first | refine R_cond rfl (fun hq => ?_) fun hq => ?_ | refine R_guardT rfl rfl rfl (fun hq => ?_) fun hq => ?_ | refine R_guardF rfl rfl rfl (fun hq => ?_) fun hq => ?_ | refine D_guardT rfl rfl rfl (fun hq => ?_) fun hq => ?_ | refine D_guardF rfl rfl rfl (fun hq => ?_) fun hq => ?_) <;> (try rw [hq]) <;> first | have hp := of_decide_eq_true hq | have hp := of_decide_eq_false hq | have hp := of_decide_eq_false (not_t hq) | have hp := of_decide_eq_true (not_f hq) | have hp := hq))
  · refine W_loop (fun k : Nat => ⟨_, [(1, .ptr 0 0), (3, .own 1), (8, .lit (.int .i64 c.codes.length)), (9, .lit (.int .i64 i)), (4, .lit (.int .i64 i)), (5, .lit (.int .i64 k))], [.cells 69 (dSGraph c), .arr 51 1 ((pairsP (codeP c) c.codes.length i ++ rowP (codeP c i) i k).map dII) true]⟩) (fun k => i < k ∧ k ≤ c.codes.length) (fun k => c.codes.length - k) (i + 1) ⟨by omega, by omega⟩ (by rw [rowP_start, List.append_nil]; exact weakZ []) ?_
    rintro k ⟨hk1, hk⟩
    have hl2 := rowP_len (codeP c i) i k
    have hl5 : ((pairsP (codeP c) c.codes.length i ++ rowP (codeP c i) i k).map dII).length ≤ 20000000 := by simp only [List.length_map, List.length_append]; omega
    repeat' (first | refine goZ ?_ | ((first | refine R_cond rfl (fun hq => ?_) fun hq => ?_ | refine R_guardT rfl rfl rfl (fun hq => ?_) fun hq => ?_ | refine R_guardF rfl rfl rfl (fun hq => ?_) fun hq => ?_ | refine D_guardT rfl rfl rfl (fun hq => ?_) fun hq => ?_ | refine D_guardF rfl rfl rfl (fun hq => ?_) fun hq => ?_) <;> (try rw [hq]) <;> first | have hp := of_decide_eq_true hq | have hp := of_decide_eq_false hq | have hp := of_decide_eq_false (not_t hq) | have hp := of_decide_eq_true (not_f hq) | have hp := hq))
    all_goals first
      | (refine ⟨k + 1, ⟨by omega, by omega⟩, by omega, ?_⟩
         simp only [row2 (p := codeP c i) hk1 (by rw [codeP, decide_eq_true_eq]; first | exact hp | exact hp.symm)]
         exact weakZ _)
      | (refine ⟨k + 1, ⟨by omega, by omega⟩, by omega, ?_⟩
         simp only [rowP_no (p := codeP c i) (i := i) (m := k) (by rw [codeP, decide_eq_false_iff_not]; first | exact hp | exact fun h => hp h.symm)]
         exact weakZ _)
      | (obtain rfl : k = c.codes.length := by omega
         exact ⟨i + 1, by omega, by omega, weakZ _⟩)
  · exact ret_own rfl rfl (by rw [show i = c.codes.length by omega]; rfl)

theorem equalCodes_f (c : SGraph) (hn : c.codes.length ≤ 300) : Fn Try.prog 176 [.agg (dSGraph c)] (.own 0) [.arr 51 1 ((ecL c).map dII) true] := by
  refine Fn_of Try.func176 rfl (by kernel_rfl) rfl rfl ?_
  intro w0 A hin
  have hz := len_strs c.codes
  repeat' (first | refine goZ ?_ | ((first | refine R_cond rfl (fun hq => ?_) fun hq => ?_ | refine R_guardT rfl rfl rfl (fun hq => ?_) fun hq => ?_ | refine R_guardF rfl rfl rfl (fun hq => ?_) fun hq => ?_ | refine D_guardT rfl rfl rfl (fun hq => ?_) fun hq => ?_ | refine D_guardF rfl rfl rfl (fun hq => ?_) fun hq => ?_) <;> (try rw [hq]) <;> first | have hp := of_decide_eq_true hq | have hp := of_decide_eq_false hq | have hp := of_decide_eq_false (not_t hq) | have hp := of_decide_eq_true (not_f hq) | have hp := hq))
  refine W_loop (fun i : Nat => ⟨_, [(1, .ptr 0 0), (3, .own 1), (9, .sh 1 (strs c.codes)), (10, .lit (.int .i64 c.codes.length)), (11, .lit (.int .i64 i))], [.cells 69 (dSGraph c), .arr 51 1 ((pairsP (codeP c) c.codes.length i).map dII) true]⟩) (fun i => i ≤ c.codes.length) (fun i => c.codes.length - i) 0 (Nat.zero_le _) (weakZ []) ?_
  intro i hi
  have hl1 := pairsP_len (codeP c) c.codes.length i
  have hl3 : i * c.codes.length ≤ c.codes.length * c.codes.length := Nat.mul_le_mul_right _ hi
  have hl4 : c.codes.length * c.codes.length ≤ 90000 := Nat.mul_le_mul hn hn
  repeat' (first | refine goZ ?_ | ((first | refine R_cond rfl (fun hq => ?_) fun hq => ?_ | refine R_guardT rfl rfl rfl (fun hq => ?_) fun hq => ?_ | refine R_guardF rfl rfl rfl (fun hq => ?_) fun hq => ?_ | refine D_guardT rfl rfl rfl (fun hq => ?_) fun hq => ?_ | refine D_guardF rfl rfl rfl (fun hq => ?_) fun hq => ?_) <;> (try rw [hq]) <;> first | have hp := of_decide_eq_true hq | have hp := of_decide_eq_false hq | have hp := of_decide_eq_false (not_t hq) | have hp := of_decide_eq_true (not_f hq) | have hp := hq))
  · refine W_loop (fun k : Nat => ⟨_, [(1, .ptr 0 0), (3, .own 1), (9, .sh 1 (strs c.codes)), (10, .lit (.int .i64 c.codes.length)), (11, .lit (.int .i64 i)), (4, .lit (.int .i64 i)), (6, .lit (.int .i64 k)), (5, .lit (.string (nth c.codes i)))], [.cells 69 (dSGraph c), .arr 51 1 ((pairsP (codeP c) c.codes.length i ++ rowP (codeP c i) i k).map dII) true]⟩) (fun k => i < k ∧ k ≤ c.codes.length) (fun k => c.codes.length - k) (i + 1) ⟨by omega, by omega⟩ (by rw [rowP_start, List.append_nil]; exact weakZ []) ?_
    rintro k ⟨hk1, hk⟩
    have hl2 := rowP_len (codeP c i) i k
    have hl5 : ((pairsP (codeP c) c.codes.length i ++ rowP (codeP c i) i k).map dII).length ≤ 20000000 := by simp only [List.length_map, List.length_append]; omega
    repeat' (first | refine goZ ?_ | ((first | refine R_cond rfl (fun hq => ?_) fun hq => ?_ | refine R_guardT rfl rfl rfl (fun hq => ?_) fun hq => ?_ | refine R_guardF rfl rfl rfl (fun hq => ?_) fun hq => ?_ | refine D_guardT rfl rfl rfl (fun hq => ?_) fun hq => ?_ | refine D_guardF rfl rfl rfl (fun hq => ?_) fun hq => ?_) <;> (try rw [hq]) <;> first | have hp := of_decide_eq_true hq | have hp := of_decide_eq_false hq | have hp := of_decide_eq_false (not_t hq) | have hp := of_decide_eq_true (not_f hq) | have hp := hq))
    all_goals first
      | (refine ⟨k + 1, ⟨by omega, by omega⟩, by omega, ?_⟩
         simp only [row2 (p := codeP c i) hk1 (by rw [codeP, decide_eq_true_eq]; first | exact hp | exact hp.symm)]
         exact weakZ _)
      | (refine ⟨k + 1, ⟨by omega, by omega⟩, by omega, ?_⟩
         simp only [rowP_no (p := codeP c i) (i := i) (m := k) (by rw [codeP, decide_eq_false_iff_not]; first | exact hp | exact fun h => hp h.symm)]
         exact weakZ _)
      | (obtain rfl : k = c.codes.length := by omega
         exact ⟨i + 1, by omega, by omega, weakZ _⟩)
  · exact ret_own rfl rfl (by rw [show i = c.codes.length by omega]; rfl)

theorem l6Ways_f (c : SGraph) (hm : c.arcs.length ≤ 4000) : Fn Try.prog 180 [.agg (dSGraph c)] (.own 0) [.arr 51 1 ((waL c).map dII) true] := by
  refine Fn_of Try.func180 rfl (by kernel_rfl) rfl rfl ?_
  intro w0 A hin
  have hz := len_dArcD c.arcs
  repeat' (first | refine goZ ?_ | ((first | refine R_cond rfl (fun hq => ?_) fun hq => ?_ | refine R_guardT rfl rfl rfl (fun hq => ?_) fun hq => ?_ | refine R_guardF rfl rfl rfl (fun hq => ?_) fun hq => ?_ | refine D_guardT rfl rfl rfl (fun hq => ?_) fun hq => ?_ | refine D_guardF rfl rfl rfl (fun hq => ?_) fun hq => ?_) <;> (try rw [hq]) <;> first | have hp := of_decide_eq_true hq | have hp := of_decide_eq_false hq | have hp := of_decide_eq_false (not_t hq) | have hp := of_decide_eq_true (not_f hq) | have hp := hq))
  refine W_open 3 51 1 rfl ?_
  refine W_loop (fun i : Nat => ⟨_, [(1, .ptr 0 0), (3, .own 1), (9, .sh 4 (c.arcs.map dArcD)), (10, .lit (.int .i64 c.arcs.length)), (11, .lit (.int .i64 i))], [.cells 69 (dSGraph c), .arr 51 1 ((pairsP (wayP c) c.arcs.length i).map dII) true]⟩) (fun i => i ≤ c.arcs.length) (fun i => c.arcs.length - i) 0 (Nat.zero_le _) (weakZ []) ?_
  intro i hi
  have hl1 := pairsP_len (wayP c) c.arcs.length i
  have hl3 : i * c.arcs.length ≤ c.arcs.length * c.arcs.length := Nat.mul_le_mul_right _ hi
  have hl4 : c.arcs.length * c.arcs.length ≤ 16000000 := Nat.mul_le_mul hm hm
  repeat' (first | refine goZ ?_ | ((first | refine R_cond rfl (fun hq => ?_) fun hq => ?_ | refine R_guardT rfl rfl rfl (fun hq => ?_) fun hq => ?_ | refine R_guardF rfl rfl rfl (fun hq => ?_) fun hq => ?_ | refine D_guardT rfl rfl rfl (fun hq => ?_) fun hq => ?_ | refine D_guardF rfl rfl rfl (fun hq => ?_) fun hq => ?_) <;> (try rw [hq]) <;> first | have hp := of_decide_eq_true hq | have hp := of_decide_eq_false hq | have hp := of_decide_eq_false (not_t hq) | have hp := of_decide_eq_true (not_f hq) | have hp := hq))
  · refine W_loop (fun k : Nat => ⟨_, [(1, .ptr 0 0), (3, .own 1), (9, .sh 4 (c.arcs.map dArcD)), (10, .lit (.int .i64 c.arcs.length)), (11, .lit (.int .i64 i)), (4, .lit (.int .i64 i)), (6, .lit (.int .i64 k)), (5, .ptr 2 0)], [.cells 69 (dSGraph c), .arr 51 1 ((pairsP (wayP c) c.arcs.length i ++ rowP (wayP c i) i k).map dII) true, .cells 166 (dArcD (nth c.arcs i))]⟩) (fun k => i < k ∧ k ≤ c.arcs.length) (fun k => c.arcs.length - k) (i + 1) ⟨by omega, by omega⟩ (by rw [rowP_start, List.append_nil]; exact weakZ []) ?_
    rintro k ⟨hk1, hk⟩
    have hl2 := rowP_len (wayP c i) i k
    have hl5 : ((pairsP (wayP c) c.arcs.length i ++ rowP (wayP c i) i k).map dII).length ≤ 20000000 := by simp only [List.length_map, List.length_append]; omega
    repeat' (first | refine goZ ?_ | ((first | refine R_cond rfl (fun hq => ?_) fun hq => ?_ | refine R_guardT rfl rfl rfl (fun hq => ?_) fun hq => ?_ | refine R_guardF rfl rfl rfl (fun hq => ?_) fun hq => ?_ | refine D_guardT rfl rfl rfl (fun hq => ?_) fun hq => ?_ | refine D_guardF rfl rfl rfl (fun hq => ?_) fun hq => ?_) <;> (try rw [hq]) <;> first | have hp := of_decide_eq_true hq | have hp := of_decide_eq_false hq | have hp := of_decide_eq_false (not_t hq) | have hp := of_decide_eq_true (not_f hq) | have hp := hq))
    all_goals first
      | (refine ⟨k + 1, ⟨by omega, by omega⟩, by omega, ?_⟩
         simp only [row2 (p := wayP c i) hk1 (by simp only [wayP, Bool.and_eq_true, decide_eq_true_eq, Bool.not_eq_true', decide_eq_false_iff_not]; omega)]
         exact weakZ _)
      | (refine ⟨k + 1, ⟨by omega, by omega⟩, by omega, ?_⟩
         simp only [rowP_no (p := wayP c i) (i := i) (m := k) (by simp only [wayP, Bool.and_eq_false_iff, decide_eq_false_iff_not, Bool.not_eq_false', decide_eq_true_eq]; omega)]
         exact weakZ _)
      | (obtain rfl : k = c.arcs.length := by omega
         exact ⟨i + 1, by omega, by omega, weakZ _⟩)
  · exact ret_own rfl rfl (by rw [show i = c.arcs.length by omega]; rfl)

theorem twoWays_f (c : SGraph) (hm : c.arcs.length ≤ 4000) (hs : ∀ a ∈ c.arcs, -1 ≤ a.sig) : Fn Try.prog 183 [.agg (dSGraph c)] (.own 0) [.arr 51 1 ((waL c).map dII) true] := by
  refine Fn_of Try.func183 rfl (by kernel_rfl) rfl rfl ?_
  intro w0 A hin
  have hz := len_dArcD c.arcs
  repeat' (first | refine goZ ?_ | ((first | refine R_cond rfl (fun hq => ?_) fun hq => ?_ | refine R_guardT rfl rfl rfl (fun hq => ?_) fun hq => ?_ | refine R_guardF rfl rfl rfl (fun hq => ?_) fun hq => ?_ | refine D_guardT rfl rfl rfl (fun hq => ?_) fun hq => ?_ | refine D_guardF rfl rfl rfl (fun hq => ?_) fun hq => ?_) <;> (try rw [hq]) <;> first | have hp := of_decide_eq_true hq | have hp := of_decide_eq_false hq | have hp := of_decide_eq_false (not_t hq) | have hp := of_decide_eq_true (not_f hq) | have hp := hq))
  refine W_loop (fun i : Nat => ⟨_, [(1, .ptr 0 0), (3, .own 1), (10, .sh 4 (c.arcs.map dArcD)), (11, .lit (.int .i64 c.arcs.length)), (12, .lit (.int .i64 i))], [.cells 69 (dSGraph c), .arr 51 1 ((pairsP (wayP c) c.arcs.length i).map dII) true]⟩) (fun i => i ≤ c.arcs.length) (fun i => c.arcs.length - i) 0 (Nat.zero_le _) (weakZ []) ?_
  intro i hi
  have hl1 := pairsP_len (wayP c) c.arcs.length i
  have hl3 : i * c.arcs.length ≤ c.arcs.length * c.arcs.length := Nat.mul_le_mul_right _ hi
  have hl4 : c.arcs.length * c.arcs.length ≤ 16000000 := Nat.mul_le_mul hm hm
  repeat' (first | refine goZ ?_ | ((first | refine R_cond rfl (fun hq => ?_) fun hq => ?_ | refine R_guardT rfl rfl rfl (fun hq => ?_) fun hq => ?_ | refine R_guardF rfl rfl rfl (fun hq => ?_) fun hq => ?_ | refine D_guardT rfl rfl rfl (fun hq => ?_) fun hq => ?_ | refine D_guardF rfl rfl rfl (fun hq => ?_) fun hq => ?_) <;> (try rw [hq]) <;> first | have hp := of_decide_eq_true hq | have hp := of_decide_eq_false hq | have hp := of_decide_eq_false (not_t hq) | have hp := of_decide_eq_true (not_f hq) | have hp := hq))
  · refine W_loop (fun k : Nat => ⟨_, [(1, .ptr 0 0), (3, .own 1), (10, .sh 4 (c.arcs.map dArcD)), (11, .lit (.int .i64 c.arcs.length)), (12, .lit (.int .i64 i)), (4, .lit (.int .i64 i)), (6, .lit (.int .i64 k)), (5, .ptr 2 0)], [.cells 69 (dSGraph c), .arr 51 1 ((pairsP (wayP c) c.arcs.length i ++ rowP (wayP c i) i k).map dII) true, .cells 166 (dArcD (nth c.arcs i))]⟩) (fun k => i < k ∧ k ≤ c.arcs.length) (fun k => c.arcs.length - k) (i + 1) ⟨by omega, by omega⟩ (by rw [rowP_start, List.append_nil]; exact weakZ []) ?_
    rintro k ⟨hk1, hk⟩
    have hl2 := rowP_len (wayP c i) i k
    have hl5 : ((pairsP (wayP c) c.arcs.length i ++ rowP (wayP c i) i k).map dII).length ≤ 20000000 := by simp only [List.length_map, List.length_append]; omega
    have hsi : -1 ≤ (nth c.arcs i).sig := hs _ (nth_mem (by omega))
    repeat' (first | refine goZ ?_ | ((first | refine R_cond rfl (fun hq => ?_) fun hq => ?_ | refine R_guardT rfl rfl rfl (fun hq => ?_) fun hq => ?_ | refine R_guardF rfl rfl rfl (fun hq => ?_) fun hq => ?_ | refine D_guardT rfl rfl rfl (fun hq => ?_) fun hq => ?_ | refine D_guardF rfl rfl rfl (fun hq => ?_) fun hq => ?_) <;> (try rw [hq]) <;> first | have hp := of_decide_eq_true hq | have hp := of_decide_eq_false hq | have hp := of_decide_eq_false (not_t hq) | have hp := of_decide_eq_true (not_f hq) | have hp := hq))
    all_goals first
      | (refine ⟨k + 1, ⟨by omega, by omega⟩, by omega, ?_⟩
         simp only [row2 (p := wayP c i) hk1 (by simp only [wayP, Bool.and_eq_true, decide_eq_true_eq, Bool.not_eq_true', decide_eq_false_iff_not]; omega)]
         exact weakZ _)
      | (refine ⟨k + 1, ⟨by omega, by omega⟩, by omega, ?_⟩
         simp only [rowP_no (p := wayP c i) (i := i) (m := k) (by simp only [wayP, Bool.and_eq_false_iff, decide_eq_false_iff_not, Bool.not_eq_false', decide_eq_true_eq]; omega)]
         exact weakZ _)
      | (obtain rfl : k = c.arcs.length := by omega
         exact ⟨i + 1, by omega, by omega, weakZ _⟩)
  · exact ret_own rfl rfl (by rw [show i = c.arcs.length by omega]; rfl)

theorem sig_ge {c : SGraph} (h : goodSG c = true) : ∀ a ∈ c.arcs, -1 ≤ a.sig := by
  intro a ha
  simp only [goodSG, sgB, Bool.and_eq_true] at h
  have h1 := List.all_eq_true.1 h.1.2.2 a ha
  simp only [arcB, labB, Bool.and_eq_true, Bool.or_eq_true, decide_eq_true_eq] at h1
  omega

theorem rowP_two {p : Nat → Bool} {i m : Nat} : ∀ r ∈ rowP p i m, r.length = 2 := by
  intro r hr
  simp only [rowP, List.mem_map] at hr
  obtain ⟨k, _, rfl⟩ := hr; rfl
theorem pairsP_two {p : Nat → Nat → Bool} {n : Nat} : ∀ {i : Nat}, ∀ r ∈ pairsP p n i, r.length = 2
  | 0, r, hr => by simp [pairsP] at hr
  | i + 1, r, hr => by
    simp only [pairsP, List.mem_append] at hr
    rcases hr with hr | hr
    · exact pairsP_two r hr
    · exact rowP_two r hr
theorem ecR_two (c : SGraph) : (∀ r ∈ ecR c, r.length = 2) ∧ (ecR c).length ≤ 16000000 := by
  unfold ecR
  split
  · rename_i h
    have hb := goodSG_len h
    have h1 := pairsP_len (codeP c) c.codes.length c.codes.length
    have h2 : c.codes.length * c.codes.length ≤ 300 * 300 := Nat.mul_le_mul (by omega) (by omega)
    exact ⟨pairsP_two, by unfold ecL; omega⟩
  · exact ⟨fun r h => (by cases h), by simp⟩
theorem waR_two (c : SGraph) : (∀ r ∈ waR c, r.length = 2) ∧ (waR c).length ≤ 16000000 := by
  unfold waR
  split
  · rename_i h
    have hb := goodSG_len h
    have h1 := pairsP_len (wayP c) c.arcs.length c.arcs.length
    have h2 : c.arcs.length * c.arcs.length ≤ 4000 * 4000 := Nat.mul_le_mul (by omega) (by omega)
    exact ⟨pairsP_two, by unfold waL; omega⟩
  · exact ⟨fun r h => (by cases h), by simp⟩
end Go.Proofs.Ytodjjabmaleggaa
