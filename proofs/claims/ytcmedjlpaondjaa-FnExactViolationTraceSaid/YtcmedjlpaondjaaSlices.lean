/- The library's functions on slices, at the program's types. -/
import Derived.Test.YtcmedjlpaondjaaLibc
set_option linter.unusedSimpArgs false
set_option linter.unusedVariables false
namespace Go.Proofs.Ytcmedjlpaondjaa
open Go.ChangeShapes Go.WideShapes Go.ChangeAt Go.RowKit
theorem list_eq_of_nth {α : Type} [Inhabited α] {l r : List α} (hl : l.length = r.length) (h : ∀ j, j < l.length → nth l j = nth r j) : l = r :=
  List.ext_getElem hl (fun i h1 h2 => by have := h i h1; rwa [nth_get h1, nth_get h2] at this)
theorem ne_of_nth {α : Type} [Inhabited α] {l r : List α} {k : Nat} (h : ¬ nth l k = nth r k) : ¬ l = r := fun e => h (by rw [e])
theorem bytes_ext {a b : ByteArray} (h : a.toList = b.toList) : a = b := by
  rw [ByteArray.toList_eq, ByteArray.toList_eq] at h
  cases a; cases b
  simp at h; simp [h]
end Go.Proofs.Ytcmedjlpaondjaa
