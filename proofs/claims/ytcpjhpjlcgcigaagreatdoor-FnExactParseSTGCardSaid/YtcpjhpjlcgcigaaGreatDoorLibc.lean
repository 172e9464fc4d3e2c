/- Plain helpers, third part: functions that are handed on; the first element that answers yes. No condition. -/
import Derived.Test.YtcpjhpjlcgcigaaGreatDoorEq
set_option linter.unusedSimpArgs false
set_option linter.unusedVariables false
namespace Go.Proofs.YtcpjhpjlcgcigaaGreatDoor
open Go.ChangeShapes Go.WideShapes Go.ChangeAt Go.RowKit

/-- A function of the program with a body of its own. -/
def Plainf (P : Program) (fid : FuncId) : Prop := ∀ args w, (callFunc fid args).run P w = .ok (.enter fid args) w
theorem plainf_of {P : Program} {fid : FuncId} {fn : Func} (hf : P.funcs[fid]? = some fn) (hname : (fn.name == "runtime.NumGoroutine") = false) (hb : fn.body.isNone = false) : Plainf P fid := by
  intro args w
  have h1 : ¬ fn.name = "runtime.NumGoroutine" := by simpa using hname
  have h2 : ¬ fn.body = none := by intro e; rw [e] at hb; simp at hb
  simp [callFunc, program, Sem.run, go_sem, hf, h1, h2]

/-- The index of the first element that answers yes, -1 if there is none. -/
def findIx {α : Type} (p : α → Bool) : List α → Int
  | [] => -1
  | x :: l => if p x then 0 else (if findIx p l < 0 then -1 else findIx p l + 1)
theorem findIx_not {α : Type} (p : α → Bool) {l : List α} (h : ∀ x ∈ l, p x = false) : findIx p l = -1 := by
  induction l with
  | nil => rfl
  | cons x l ih => rw [findIx, h x (by simp), ih (fun y hy => h y (by simp [hy]))]; simp
theorem findIx_at {α : Type} [Inhabited α] (p : α → Bool) : ∀ {l : List α} {k : Nat}, k < l.length → (∀ j, j < k → p (nth l j) = false) → p (nth l k) = true → findIx p l = k
  | [], k, h, _, _ => by simp at h
  | x :: l, 0, _, _, h2 => by rw [nth_cons_zero] at h2; simp [findIx, h2]
  | x :: l, k + 1, h, h1, h2 => by
    have h0 := h1 0 (by omega)
    rw [nth_cons_zero] at h0
    rw [nth_cons_succ] at h2
    have := findIx_at p (l := l) (k := k) (by simpa using h) (fun j hj => by have := h1 (j + 1) (by omega); rwa [nth_cons_succ] at this) h2
    rw [findIx, this, if_neg (by simp [h0]), if_neg (by omega)]; simp
theorem all_nth {α : Type} [Inhabited α] {l : List α} {q : α → Prop} (h : ∀ j, j < l.length → q (nth l j)) : ∀ x ∈ l, q x := by
  intro x hx
  obtain ⟨i, hi, rfl⟩ := List.getElem_of_mem hx
  have := h i hi
  rwa [nth_get hi] at this
theorem findIx_any {α : Type} (p : α → Bool) (l : List α) : decide (0 ≤ findIx p l) = l.any p := by
  induction l with
  | nil => simp [findIx]
  | cons x l ih =>
    rw [findIx, List.any_cons, ← ih]
    by_cases hx : p x
    · simp [hx]
    · by_cases h0 : findIx p l < 0
      · simp [hx, h0]
      · simp [hx, h0]; omega
end Go.Proofs.YtcpjhpjlcgcigaaGreatDoor
