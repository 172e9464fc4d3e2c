/- Regions: the last kind of each label, as the program keeps it in a map. No condition. -/
import Derived.Test.YtjfipianehabgaaReg
set_option linter.unusedSimpArgs false
set_option linter.unusedVariables false
namespace Go.Proofs.Ytjfipianehabgaa
open Go.ChangeShapes Go.WideShapes Go.ChangeAt Go.RowKit

def labQ (a : ArcD) : Lab := ⟨a.sig, a.up⟩
/-- The last of the first i arcs that bears a label. -/
def lastJ (l : List ArcD) (x : Lab) : Nat → Option Nat
  | 0 => none
  | i + 1 => if labQ (nth l i) = x then some i else lastJ l x i
theorem lastJ_some {l : List ArcD} {x : Lab} : ∀ {i j : Nat}, lastJ l x i = some j → j < i ∧ labQ (nth l j) = x
  | 0, _, h => by simp [lastJ] at h
  | i + 1, j, h => by
    simp only [lastJ] at h
    split at h
    · rename_i h1; cases h; exact ⟨by omega, h1⟩
    · have := lastJ_some h; exact ⟨by omega, this.2⟩
theorem lastJ_none {l : List ArcD} {x : Lab} : ∀ {i : Nat}, lastJ l x i = none → ∀ j, j < i → labQ (nth l j) ≠ x
  | 0, _, j, hj => by omega
  | i + 1, h, j, hj => by
    simp only [lastJ] at h
    split at h
    · simp at h
    · rename_i h1
      by_cases e : j = i
      · subst e; exact h1
      · exact lastJ_none h j (by omega)
def lastK (l : List ArcD) (set : List Int) (x : Lab) (i : Nat) : Option Int := (lastJ l x i).map fun j => crI set (nth l j)
theorem isA_lab (a b : ArcD) : isA a.sig a.up b = decide (labQ b = labQ a) := by
  obtain ⟨a1, a2, a3, a4⟩ := a; obtain ⟨b1, b2, b3, b4⟩ := b
  rw [Bool.eq_iff_iff]; simp [isA, labQ]
/-- As long as no two arcs of a label part, the last one speaks for all. -/
theorem reg_step {l : List ArcD} {set : List Int} {i : Nat} (h : ∀ i', i' < i → ∀ j, j < i' → crBad l set i' j = false) :
    (∃ j, j < i ∧ crBad l set i j = true) ↔ (0 ≤ (nth l i).sig ∧ ∃ k, lastK l set (labQ (nth l i)) i = some k ∧ k ≠ crI set (nth l i)) := by
  have hb : ∀ i j, crBad l set i j = true ↔ 0 ≤ (nth l i).sig ∧ labQ (nth l j) = labQ (nth l i) ∧ crI set (nth l i) ≠ crI set (nth l j) := by
    intro i j
    simp only [crBad, isA_lab, Bool.and_eq_true, decide_eq_true_eq, Bool.not_eq_true', decide_eq_false_iff_not]
  have hsame : ∀ i1 i2, i1 < i → i2 < i1 → 0 ≤ (nth l i1).sig → labQ (nth l i2) = labQ (nth l i1) → crI set (nth l i1) = crI set (nth l i2) := by
    intro i1 i2 h1 h2 h3 h4
    refine Classical.byContradiction fun hne => ?_
    have := h i1 h1 i2 h2
    rw [(hb i1 i2).2 ⟨h3, h4, hne⟩] at this
    exact Bool.noConfusion this
  constructor
  · rintro ⟨j, hj, hbad⟩
    obtain ⟨h1, h2, h3⟩ := (hb i j).1 hbad
    refine ⟨h1, ?_⟩
    cases hl : lastJ l (labQ (nth l i)) i with
    | none => exact absurd h2 (lastJ_none hl j hj)
    | some m =>
      obtain ⟨hm1, hm2⟩ := lastJ_some hl
      refine ⟨crI set (nth l m), by simp [lastK, hl], fun e => h3 ?_⟩
      have hsm : (nth l m).sig = (nth l i).sig := by have := congrArg Lab.sig hm2; exact this
      have hsj : (nth l j).sig = (nth l i).sig := by have := congrArg Lab.sig h2; exact this
      rcases Nat.lt_trichotomy m j with hmj | rfl | hmj
      · rw [← e, hsame j m hj hmj (by omega) (by rw [hm2, h2])]
      · exact e.symm
      · rw [← e, hsame m j hm1 hmj (by omega) (by rw [hm2, h2])]
  · rintro ⟨h1, k, h2, h3⟩
    unfold lastK at h2
    cases hl : lastJ l (labQ (nth l i)) i with
    | none => rw [hl] at h2; simp at h2
    | some m =>
      rw [hl] at h2
      simp only [Option.map_some, Option.some.injEq] at h2
      subst h2
      obtain ⟨hm1, hm2⟩ := lastJ_some hl
      exact ⟨m, hm1, (hb i m).2 ⟨h1, hm2, fun e => h3 e.symm⟩⟩
end Go.Proofs.Ytjfipianehabgaa
