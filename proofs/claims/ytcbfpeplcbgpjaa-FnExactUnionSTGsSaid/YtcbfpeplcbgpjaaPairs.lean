/- Pairs of states with equal codes, pairs of arcs that leave one state with one signal: what the reference's and the program's functions hand back. No condition. -/
import Derived.Test.YtcbfpeplcbgpjaaExc
import Derived.Test.YtcbfpeplcbgpjaaPick
set_option linter.unusedSimpArgs false
set_option linter.unusedVariables false
namespace Go.Proofs.Ytcbfpeplcbgpjaa
open Go.ChangeShapes Go.WideShapes Go.ChangeAt Go.RowKit

def dII (l : List Int) : List D := [.sh 1 (ints l)]
/-- The pairs of i with what is behind it and below m, as far as p takes them. -/
def rowP (p : Nat → Bool) (i m : Nat) : List (List Int) := ((List.range m).filter fun k => decide (i < k) && p k).map fun k : Nat => [(i : Int), (k : Int)]
theorem rowP_yes {p : Nat → Bool} {i m : Nat} (h : i < m) (hp : p m = true) : rowP p i (m + 1) = rowP p i m ++ [[(i : Int), (m : Int)]] := by
  simp [rowP, List.range_succ, List.filter_append, h, hp]
theorem rowP_no {p : Nat → Bool} {i m : Nat} (hp : p m = false) : rowP p i (m + 1) = rowP p i m := by
  simp [rowP, List.range_succ, List.filter_append, hp]
theorem rowP_start (p : Nat → Bool) (i : Nat) : rowP p i (i + 1) = [] := by
  simp only [rowP, List.map_eq_nil_iff, List.filter_eq_nil_iff, List.mem_range, Bool.and_eq_true, decide_eq_true_eq]
  intro k hk; omega
theorem rowP_len (p : Nat → Bool) (i m : Nat) : (rowP p i m).length ≤ m := by
  have := List.length_filter_le (fun k => decide (i < k) && p k) (List.range m)
  simpa [rowP] using this
def pairsP (p : Nat → Nat → Bool) (n : Nat) : Nat → List (List Int)
  | 0 => []
  | i + 1 => pairsP p n i ++ rowP (p i) i n
theorem pairsP_len (p : Nat → Nat → Bool) (n : Nat) : ∀ i, (pairsP p n i).length ≤ i * n
  | 0 => by simp [pairsP]
  | i + 1 => by
    have h1 := pairsP_len p n i; have h2 := rowP_len (p i) i n
    simp only [pairsP, List.length_append, Nat.add_mul]; omega
theorem row2 {l : List (List Int)} {p : Nat → Bool} {i k : Nat} (h : i < k) (hp : p k = true) : ((l ++ rowP p i (k + 1)).map dII) = (l ++ rowP p i k).map dII ++ [[.sh 1 [[.lit (.int .i64 i)], [.lit (.int .i64 k)]]]] := by
  rw [rowP_yes h hp, ← List.append_assoc, List.map_append]; rfl

def codeP (c : SGraph) (i k : Nat) : Bool := decide (nth c.codes i = nth c.codes k)
def ecL (c : SGraph) : List (List Int) := pairsP (codeP c) c.codes.length c.codes.length
noncomputable def ecR (c : SGraph) : List (List Int) := if goodSG c then ecL c else []
/-- Two arcs that leave one state with one signal. -/
def wayP (c : SGraph) (i k : Nat) : Bool := decide ((nth c.arcs i).src = (nth c.arcs k).src) && decide ((nth c.arcs i).sig = (nth c.arcs k).sig) && decide (0 ≤ (nth c.arcs i).sig) && !decide ((nth c.arcs i).dst = (nth c.arcs k).dst)
def waL (c : SGraph) : List (List Int) := pairsP (wayP c) c.arcs.length c.arcs.length
noncomputable def waR (c : SGraph) : List (List Int) := if goodSG c then waL c else []

theorem sig_ge {c : SGraph} (h : goodSG c = true) : ∀ a ∈ c.arcs, -1 ≤ a.sig := by
  intro a ha
  simp only [goodSG, sgB, Bool.and_eq_true] at h
  have h1 := List.all_eq_true.1 h.1.2.2 a ha
  simp only [arcB, labB, Bool.and_eq_true, Bool.or_eq_true, decide_eq_true_eq] at h1
  omega

theorem rowP_two {p : Nat → Bool} {i m : Nat} : ∀ r ∈ rowP p i m, r.length = 2 := by
  intro r hr
  simp only [rowP, List.mem_map] at hr
  obtain ⟨k, _, rfl⟩ := hr; rfl
theorem pairsP_two {p : Nat → Nat → Bool} {n : Nat} : ∀ {i : Nat}, ∀ r ∈ pairsP p n i, r.length = 2
  | 0, r, hr => by simp [pairsP] at hr
  | i + 1, r, hr => by
    simp only [pairsP, List.mem_append] at hr
    rcases hr with hr | hr
    · exact pairsP_two r hr
    · exact rowP_two r hr
theorem ecR_two (c : SGraph) : (∀ r ∈ ecR c, r.length = 2) ∧ (ecR c).length ≤ 16000000 := by
  unfold ecR
  split
  · rename_i h
    have hb := goodSG_len h
    have h1 := pairsP_len (codeP c) c.codes.length c.codes.length
    have h2 : c.codes.length * c.codes.length ≤ 300 * 300 := Nat.mul_le_mul (by omega) (by omega)
    exact ⟨pairsP_two, by unfold ecL; omega⟩
  · exact ⟨fun r h => (by cases h), by simp⟩
theorem waR_two (c : SGraph) : (∀ r ∈ waR c, r.length = 2) ∧ (waR c).length ≤ 16000000 := by
  unfold waR
  split
  · rename_i h
    have hb := goodSG_len h
    have h1 := pairsP_len (wayP c) c.arcs.length c.arcs.length
    have h2 : c.arcs.length * c.arcs.length ≤ 4000 * 4000 := Nat.mul_le_mul (by omega) (by omega)
    exact ⟨pairsP_two, by unfold waL; omega⟩
  · exact ⟨fun r h => (by cases h), by simp⟩
end Go.Proofs.Ytcbfpeplcbgpjaa
