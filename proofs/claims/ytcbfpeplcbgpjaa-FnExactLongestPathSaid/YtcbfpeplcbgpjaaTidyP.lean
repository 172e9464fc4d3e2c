/- Numbers sorted, each once: the plain law; no program in sight. No condition. -/
import Derived.Test.YtcbfpeplcbgpjaaPut
import Derived.Lib.SlicesCompact
set_option linter.unusedSimpArgs false
set_option linter.unusedVariables false
namespace Go.Proofs.Ytcbfpeplcbgpjaa
open Go.Lib

theorem getE_nth {l : List Int} {j : Nat} (h : j < l.length) : l.toArray[j]! = nth l j := by
  rw [nth_get h]; simp [h]
theorem compact_mem (l : List Int) (x : Int) : x ∈ compact l ↔ x ∈ l := by
  unfold compact compactUpTo
  simp only [List.mem_map, List.mem_filter, List.mem_range]
  constructor
  · rintro ⟨j, ⟨h1, _⟩, rfl⟩
    rw [getE_nth h1]; exact nth_mem h1
  · intro hx
    obtain ⟨j, hj, e⟩ := List.getElem_of_mem hx
    have key : ∀ j : Nat, j < l.length → nth l j = x → ∃ i : Nat, (i < l.length ∧ keeps l.toArray i = true) ∧ l.toArray[i]! = x := by
      intro j
      induction j with
      | zero => intro h1 h2; exact ⟨0, ⟨h1, by simp [keeps]⟩, by rw [getE_nth h1]; exact h2⟩
      | succ j ih =>
        intro h1 h2
        by_cases he : nth l j = x
        · exact ih (by omega) he
        · refine ⟨j + 1, ⟨h1, ?_⟩, by rw [getE_nth h1]; exact h2⟩
          refine keeps_pos ?_
          rw [getE_nth h1, Nat.add_sub_cancel, getE_nth (by omega), h2]
          exact fun e => he e.symm
    exact key j hj (by rw [nth_get hj]; exact e)
theorem compact_inc {l : List Int} (h : l.Pairwise (· ≤ ·)) : Inc (compact l) := by
  have hle : ∀ i j : Nat, i ≤ j → j < l.length → nth l i ≤ nth l j := by
    intro i j hij hj
    by_cases e : i = j
    · subst e; omega
    · rw [nth_get (by omega), nth_get hj]
      exact List.pairwise_iff_getElem.1 h i j (by omega) hj (by omega)
  unfold compact compactUpTo Inc
  rw [List.pairwise_map]
  have h1 : ((List.range l.length).filter (keeps l.toArray)).Pairwise (· < ·) := List.Pairwise.filter _ List.pairwise_lt_range
  refine List.Pairwise.imp_of_mem ?_ h1
  intro i j hi hj hij
  simp only [List.mem_filter, List.mem_range] at hi hj
  rw [getE_nth hi.1, getE_nth hj.1]
  have hk := hj.2
  unfold keeps at hk
  rw [decide_eq_true_eq] at hk
  rcases hk with rfl | hk
  · omega
  · rw [getE_nth hj.1, getE_nth (by omega)] at hk
    have h2 := hle (j - 1) j (by omega) hj.1
    have h3 := hle i (j - 1) (by omega) (by omega)
    omega
def sortL (l : List Int) : List Int := l.mergeSort fun x y => decide (x ≤ y)
theorem sortL_mem (l : List Int) (x : Int) : x ∈ sortL l ↔ x ∈ l := by
  unfold sortL; exact List.mem_mergeSort
theorem sortL_len (l : List Int) : (sortL l).length = l.length := by
  unfold sortL; exact List.length_mergeSort l
theorem sortL_le (l : List Int) : (sortL l).Pairwise (· ≤ ·) := by
  have := List.pairwise_mergeSort (le := fun x y : Int => decide (x ≤ y)) (fun a b c h1 h2 => by simp at *; omega) (fun a b => by simp; omega) l
  refine this.imp fun h => by simpa using h
/-- Numbers, in order, each once. -/
def tidyL (l : List Int) : List Int := compact (sortL l)
theorem tidyL_inc (l : List Int) : Inc (tidyL l) := compact_inc (sortL_le l)
theorem tidyL_mem (l : List Int) (x : Int) : x ∈ tidyL l ↔ x ∈ l := by rw [tidyL, compact_mem, sortL_mem]
theorem tidyL_len (l : List Int) : (tidyL l).length ≤ l.length := by
  have h1 : (compact (sortL l)).length ≤ (sortL l).length := by
    unfold compact compactUpTo
    rw [List.length_map]
    exact Nat.le_trans (List.length_filter_le _ _) (by simp)
  rw [sortL_len] at h1; exact h1
end Go.Proofs.Ytcbfpeplcbgpjaa
