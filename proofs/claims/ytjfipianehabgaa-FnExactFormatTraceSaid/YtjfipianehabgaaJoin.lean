/- Words joined by blanks: the plain law, and strings.Join. No condition. -/
import Derived.Test.YtjfipianehabgaaNet
import Derived.Test.YtjfipianehabgaaIx
import Derived.Lib.Join
import Derived.Shelf.Strings.OnBuilder
import Derived.Test.YtjfipianehabgaaLayJoin
import Derived.Test.YtjfipianehabgaaInp
set_option linter.unusedSimpArgs false
set_option linter.unusedVariables false
namespace Go.Proofs.Ytjfipianehabgaa
open Go.ChangeShapes Go.WideShapes Go.ChangeAt Go.RowKit

theorem inter_snoc {α : Type} (sep : List α) : ∀ (xs : List (List α)) (x : List α), xs ≠ [] → sep.intercalate (xs ++ [x]) = sep.intercalate xs ++ (sep ++ x)
  | [], _, h => absurd rfl h
  | [y], x, _ => by simp [List.intercalate, List.intersperse]
  | y :: z :: r, x, _ => by
    have ih := inter_snoc sep (z :: r) x (by simp)
    simp only [List.cons_append] at ih ⊢
    simp only [List.intercalate, List.intersperse_cons_cons, List.flatten_cons] at ih ⊢
    rw [ih]; simp
/-- Words, a blank between them. -/
def joinB (ws : List ByteArray) : ByteArray := ⟨(Go.Lib.join (ws.map (·.data.toList)) [32]).toArray⟩
theorem joinB_nil : joinB [] = ⟨#[]⟩ := rfl
theorem ba_mk (a : ByteArray) : (⟨a.data.toList.toArray⟩ : ByteArray) = a := by cases a; simp
theorem ba_app (a b : List UInt8) : (⟨(a ++ b).toArray⟩ : ByteArray) = ⟨a.toArray⟩ ++ ⟨b.toArray⟩ := by
  apply ByteArray.ext
  simp [ByteArray.data_append]
theorem joinB_snoc (ws : List ByteArray) (w : ByteArray) : joinB (ws ++ [w]) = if ws = [] then w else joinB ws ++ ⟨#[32]⟩ ++ w := by
  split
  · rename_i h; subst h
    simp only [joinB, Go.Lib.join, List.nil_append, List.map_cons, List.map_nil]
    rw [show ([32] : List UInt8).intercalate [w.data.toList] = w.data.toList by simp [List.intercalate]]

  · rename_i h
    simp only [joinB, Go.Lib.join, List.map_append, List.map_cons, List.map_nil]
    rw [inter_snoc _ _ _ (by simpa using h), ba_app, ba_app, ba_mk, ByteArray.append_assoc]
theorem joinB_size : ∀ (ws : List ByteArray) (m : Nat), (∀ w ∈ ws, w.size ≤ m) → (joinB ws).size ≤ (m + 1) * ws.length := by
  intro ws m
  have key : ∀ n : Nat, n ≤ ws.length → (∀ w ∈ ws, w.size ≤ m) → (joinB (ws.take n)).size ≤ (m + 1) * n := by
    intro n
    induction n with
    | zero => intro _ _; simp [joinB_nil]; rfl
    | succ n ih =>
      intro hn hw
      have h1 := ih (by omega) hw
      have h2 := hw _ (nth_mem (show n < ws.length by omega))
      rw [take_nth (show n < ws.length by omega), joinB_snoc]
      have e : (m + 1) * (n + 1) = (m + 1) * n + (m + 1) := Nat.mul_succ ..
      split
      · omega
      · rw [ByteArray.size_append, ByteArray.size_append]
        have e2 : (⟨#[32]⟩ : ByteArray).size = 1 := rfl
        omega
  intro hw
  have := key ws.length (Nat.le_refl _) hw
  rwa [List.take_length] at this

theorem Join_f (ws : List ByteArray) (hl : ws.length ≤ 1000000) (hw : ∀ w ∈ ws, w.size ≤ 1000) : Fn Try.prog 120 [.sh 1 (strs ws), .lit (.string ⟨#[32]⟩)] (.lit (.string (joinB ws))) [] := by
  have hsz := joinB_size ws 1000 hw
  have hsz2 : (joinB ws).size ≤ 1001000000 := by
    have : (1000 + 1) * ws.length ≤ 1001 * 1000000 := Nat.mul_le_mul_left _ hl
    omega
  refine Fn.of_lit (by simp only [litOk]; omega) (plain_of Try.func120 (by kernel_rfl) (by kernel_rfl)) fun w us h => ?_
  obtain ⟨u, us', rfl, h1, h2⟩ := vxs_cons h
  obtain ⟨u2, rfl, h3⟩ := vxs_one h2
  obtain ⟨rfl, _⟩ := h3.lit_inv
  obtain ⟨bs, h4, hxx⟩ := h1.sh_inv
  clear hxx
  have hlen : (Go.Lib.join (ws.map (·.data.toList)) (⟨#[32]⟩ : ByteArray).data.toList).length ≤ 140737488355328 := by
    have e : (joinB ws).size = (Go.Lib.join (ws.map (·.data.toList)) [32]).length := by simp [joinB, ByteArray.size]
    show (Go.Lib.join (ws.map (·.data.toList)) [32]).length ≤ _
    omega
  generalize hx : strs ws = xs at h4
  have hxl : xs.length = ws.length := by rw [← hx]; simp [strs]
  cases h4 with
  | shnil q1 q2 =>
    obtain rfl : ws = [] := List.length_eq_zero_iff.1 (by rw [← hxl]; rfl)
    refine (Any.strings_Join_none layJoin layJoinX _ _ _ w).mono ?_
    rintro e w' ⟨rfl, rfl⟩
    exact ⟨rfl, Ext.refl _⟩
  | sh q1 q2 q3 q4 q5 q6 =>
    rename_i b o cap us bs
    rw [hxl] at q2 ⊢
    have hus : us = ws.map Value.string := litV_inv (us := ws.map Value.string) (by
      have e : (ws.map Value.string).map D.lit = xs.flatten := by
        rw [← hx]
        clear hx hxl q2 q5 q6 h1 h hlen hsz hsz2 hw hl
        induction ws with
        | nil => rfl
        | cons x l ih => simp only [strs, List.map_cons, List.flatten_cons, List.cons_append, List.nil_append] at ih ⊢; rw [ih]
      rw [e]; exact q5)
    refine (Any.strings_Join layJoin layJoinX b o cap ws ⟨#[32]⟩ w (fun j x hj => ?_) q4 (by omega) q2 hlen).mono ?_
    · have hjl : j < ws.length := (List.getElem?_eq_some_iff.1 hj).1
      rw [q6 j (by rw [hus]; simpa using hjl), hus]
      simp [hj]
    · rintro e w' ⟨rfl, hb⟩
      exact ⟨rfl, hb⟩
end Go.Proofs.Ytjfipianehabgaa
