/- Labels in their order, as numbers. No condition. -/
import Derived.Test.YtcmedjlpaondjaaDis
set_option linter.unusedSimpArgs false
set_option linter.unusedVariables false
namespace Go.Proofs.Ytcmedjlpaondjaa
open Go.ChangeShapes Go.WideShapes Go.ChangeAt Go.RowKit

/-- Labels as numbers, in their order. -/
def keyL (x : Lab) : Int := 2 * x.sig + (if x.up then 1 else 0)
theorem keyL_inj {x y : Lab} (h : keyL x = keyL y) : x = y := by
  obtain ⟨a, b⟩ := x; obtain ⟨c, d⟩ := y
  simp only [keyL] at h
  cases b <;> cases d <;> simp at h ⊢ <;> omega
def putLb : List Lab → Lab → List Lab
  | [], n => [n]
  | x :: l, n => if keyL x < keyL n then x :: putLb l n else if x = n then x :: l else n :: x :: l
theorem putLb_key : ∀ (l : List Lab) (n : Lab), (putLb l n).map keyL = putI (l.map keyL) (keyL n)
  | [], _ => rfl
  | x :: l, n => by
    simp only [putLb, List.map_cons, putI]
    by_cases h1 : keyL x < keyL n
    · rw [if_pos h1, if_pos h1, List.map_cons, putLb_key]
    · rw [if_neg h1, if_neg h1]
      by_cases h2 : x = n
      · rw [if_pos h2, if_pos (by rw [h2])]; rfl
      · rw [if_neg h2, if_neg (fun h => h2 (keyL_inj h))]; rfl
theorem putLb_len (l : List Lab) (n : Lab) : (putLb l n).length ≤ l.length + 1 := by
  have := putI_len (l.map keyL) (keyL n)
  rw [← putLb_key] at this; simpa using this
theorem map_key_inj : ∀ {l l' : List Lab}, l.map keyL = l'.map keyL → l = l'
  | [], [], _ => rfl
  | [], _ :: _, h => by simp at h
  | _ :: _, [], h => by simp at h
  | x :: l, y :: l', h => by
    simp only [List.map_cons, List.cons.injEq] at h
    rw [keyL_inj h.1, map_key_inj h.2]
theorem putLb_same {l : List Lab} {n : Lab} {k : Nat} (hk : k < l.length) (h : ∀ j, j < k → keyL (nth l j) < keyL n) (he : nth l k = n) : putLb l n = l := by
  refine map_key_inj ?_
  have hn : ∀ j, j < l.length → nth (l.map keyL) j = keyL (nth l j) := fun j hj => by rw [nth_get (by simpa using hj), nth_get hj]; simp
  rw [putLb_key, putI_same (k := k) (by simpa using hk) (fun j hj => by rw [hn j (by omega)]; exact h j hj) (by rw [hn k hk, he])]
theorem putLb_new {l : List Lab} {n : Lab} {k : Nat} (hk : k ≤ l.length) (h : ∀ j, j < k → keyL (nth l j) < keyL n) (hn : k < l.length → keyL n < keyL (nth l k)) : putLb l n = l.take k ++ ([n] ++ l.drop k) := by
  refine map_key_inj ?_
  have hm : ∀ j, j < l.length → nth (l.map keyL) j = keyL (nth l j) := fun j hj => by rw [nth_get (by simpa using hj), nth_get hj]; simp
  rw [putLb_key, putI_new (k := k) (by simpa using hk) (fun j hj => by rw [hm j (by omega)]; exact h j hj) (fun h2 => by rw [hm k (by simpa using h2)]; exact hn (by simpa using h2))]
  simp [List.map_append, List.map_take, List.map_drop]
/-- Labels in their order. -/
def IncL (l : List Lab) : Prop := Inc (l.map keyL)
theorem incL_ext {l l' : List Lab} (h : IncL l) (h' : IncL l') (he : ∀ x, x ∈ l ↔ x ∈ l') : l = l' := by
  refine map_key_inj (inc_ext h h' fun x => ?_)
  simp only [List.mem_map, he]
theorem putLb_mem {l : List Lab} {n x : Lab} : x ∈ putLb l n ↔ x = n ∨ x ∈ l := by
  have := putI_mem (l := l.map keyL) (n := keyL n) (x := keyL x)
  rw [← putLb_key] at this
  have hm : ∀ {l : List Lab}, keyL x ∈ l.map keyL ↔ x ∈ l := fun {l} => by
    simp only [List.mem_map]
    exact ⟨fun ⟨y, h1, h2⟩ => keyL_inj h2 ▸ h1, fun h => ⟨x, h, rfl⟩⟩
  rw [hm, hm] at this
  rw [this]
  exact ⟨fun h => h.imp keyL_inj id, fun h => h.imp (fun e => by rw [e]) id⟩
theorem putLb_inc {l : List Lab} {n : Lab} (h : IncL l) : IncL (putLb l n) := by
  unfold IncL; rw [putLb_key]; exact putI_inc h
theorem putLb_rows (l : List Lab) (n : Lab) (k : Nat) : List.drop 0 (List.take (k : Int).toNat (l.map dLab)) ++ [dLab n] ++ List.drop (k : Int).toNat (List.take (l.map dLab).length (l.map dLab)) = (l.take k ++ ([n] ++ l.drop k)).map dLab := by
  rw [List.take_length]
  simp [List.map_take, List.map_drop]
end Go.Proofs.Ytcmedjlpaondjaa
