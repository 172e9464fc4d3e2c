/- The first index of a string in a list, the reference's and the library's; what a valid reachability graph is. The program's isReach answers goodReach. The reference's l4Good answers goodReach. -/
import Derived.Test.YtcmedjlpaondjaaNetX
import Derived.Test.YtcmedjlpaondjaaSlices
import Derived.Maps.Own
import Derived.Maps.OwnSet
import Derived.Maps.Views
import Derived.StringKeys
set_option linter.unusedSimpArgs false
set_option linter.unusedVariables false
namespace Go.Proofs.Ytcmedjlpaondjaa
open Go.ChangeShapes Go.WideShapes Go.ChangeAt Go.RowKit

def strIx (l : List ByteArray) (s : ByteArray) : Int := findIx (fun x => decide (x = s)) l

theorem bytes_beq_false {a b : ByteArray} (h : ¬ a = b) : (a.toList == b.toList) = false := by rw [beq_eq_false_iff_ne]; exact fun e => h (bytes_ext e)

/-- A reachability graph that is valid. -/
def goodMv (n : Int) (m : Mv) : Bool := decide (0 ≤ m.src ∧ m.src ≤ n - 1) && decide (0 ≤ m.dst ∧ m.dst ≤ n - 1) && decide (0 ≤ m.by_ ∧ m.by_ ≤ 23)
def goodReach (r : RGraph) : Bool := decide (1 ≤ (r.marks.length : Int) ∧ (r.marks.length : Int) ≤ 300) && decide r.marks.Nodup && decide (r.moves.length ≤ 4000) && r.moves.all (goodMv r.marks.length)
theorem goodMv_def (n : Int) (m : Mv) : goodMv n m = (decide (0 ≤ m.src ∧ m.src ≤ n - 1) && decide (0 ≤ m.dst ∧ m.dst ≤ n - 1) && decide (0 ≤ m.by_ ∧ m.by_ ≤ 23)) := rfl
theorem goodReach_def (r : RGraph) : goodReach r = (decide (1 ≤ (r.marks.length : Int) ∧ (r.marks.length : Int) ≤ 300) && decide r.marks.Nodup && decide (r.moves.length ≤ 4000) && r.moves.all (goodMv r.marks.length)) := rfl
theorem all_drop {α : Type} [Inhabited α] (p : α → Bool) {l : List α} {k : Nat} (h : k < l.length) : (l.drop k).all p = (p (nth l k) && (l.drop (k + 1)).all p) := by
  rw [drop_nth h, List.all_cons]
end Go.Proofs.Ytcmedjlpaondjaa
namespace Go.Proofs.Ytcmedjlpaondjaa
open Go.ChangeShapes Go.WideShapes Go.ChangeAt Go.RowKit Go.Maps

/-! A set of strings kept in a map: how many there are. -/
def strLit (s : ByteArray) : Lit := .string s.data.toList
def strSet (l : List ByteArray) : DataW Unit := setOf (.lit (.bool true)) (l.map strLit)
theorem strLit_same (a b : ByteArray) : (strLit a).sameKey (strLit b) = decide (a = b) := by
  unfold strLit Lit.sameKey
  rw [Bool.eq_iff_iff]
  simp only [beq_iff_eq, decide_eq_true_eq]
  constructor
  · intro h; cases a; cases b; simp at h; simp [h]
  · rintro rfl; rfl
theorem addKey_len : ∀ (l acc : List ByteArray), acc.Nodup → (((l.map strLit).foldl addKey (acc.map strLit)).length ≤ acc.length + l.length) ∧ (((l.map strLit).foldl addKey (acc.map strLit)).length = acc.length + l.length ↔ (acc ++ l).Nodup)
  | [], acc, h => by simp [h]
  | x :: l, acc, h => by
    rw [List.map_cons, List.foldl_cons]
    by_cases hx : x ∈ acc
    · have hany : ((acc.map strLit).any fun y => y.sameKey (strLit x)) = true := by
        rw [List.any_map, List.any_eq_true]; exact ⟨x, hx, by simp [strLit_same]⟩
      have ha : addKey (acc.map strLit) (strLit x) = acc.map strLit := by unfold addKey; rw [if_pos hany]
      rw [ha]
      obtain ⟨h1, _⟩ := addKey_len l acc h
      refine ⟨by simp only [List.length_cons]; omega, ⟨fun e => ?_, fun e => ?_⟩⟩
      · simp only [List.length_cons] at e; omega
      · rw [List.nodup_append] at e
        exact (e.2.2 x hx x (by simp) rfl).elim
    · have hany : ¬ ((acc.map strLit).any fun y => y.sameKey (strLit x)) = true := by
        rw [List.any_map, List.any_eq_true]; rintro ⟨y, hy, e⟩; simp only [Function.comp, strLit_same, decide_eq_true_eq] at e; exact hx (e ▸ hy)
      have ha : addKey (acc.map strLit) (strLit x) = (acc ++ [x]).map strLit := by unfold addKey; rw [if_neg hany]; simp
      rw [ha]
      have hn : (acc ++ [x]).Nodup := by
        rw [List.nodup_append]; exact ⟨h, by simp, fun a hm b hb e => by simp at hb; subst hb; subst e; exact hx hm⟩
      obtain ⟨h1, h2⟩ := addKey_len l (acc ++ [x]) hn
      simp only [List.length_append, List.length_cons, List.length_nil, List.append_assoc, List.cons_append, List.nil_append] at h1 h2
      exact ⟨by simp only [List.length_cons]; omega, by rw [← h2]; simp only [List.length_cons]; omega⟩
theorem strSet_size (l : List ByteArray) : ((Maps.size (strSet l) : Nat) = l.length) ↔ l.Nodup := by
  unfold strSet
  rw [size_setOf _ _ (by intro x hx; obtain ⟨s, _, rfl⟩ := List.mem_map.1 hx; trivial)]
  have := (addKey_len l [] (by simp)).2
  simpa using this
theorem strSet_snoc (l : List ByteArray) (s : ByteArray) : strSet (l ++ [s]) = (strSet l).put (strLit s) (.lit (.bool true)) := by
  unfold strSet; rw [List.map_append, List.map_cons, List.map_nil, setOf_snoc]

theorem ownsMap_ext {w w' : World} {P : Program} {k : TypeId} {R : Value → Option (DataW Unit × List MemPlace)} {b n : Nat} {D : DataW Unit} (h : w.ownsMap P k R b n D) (x : Ext w w') : w'.ownsMap P k R b n D := by
  obtain ⟨es, clock, h1, h2⟩ := h
  exact ⟨es, clock, by rw [x.heap (Array.getElem?_eq_some_iff.1 h1).1]; exact h1, h2⟩

theorem keyed_str : Keyed Try.prog 9 := string_keyed Try.underlying9

end Go.Proofs.Ytcmedjlpaondjaa
namespace Go.Proofs.Ytcmedjlpaondjaa
open Go.ChangeShapes Go.WideShapes Go.ChangeAt Go.RowKit

theorem SlR.take {α : Type} [Inhabited α] {T : Ty α} {w : World} {a : Option Addr} {l : List α} (h : SlR T w a l) (k : Nat) : SlR T w a (l.take k) := by
  obtain ⟨bs, h | ⟨b, o, bss, ha, hb, hbs, hl, he⟩⟩ := h
  · obtain ⟨rfl, _⟩ := h; exact ⟨[], Or.inl ⟨by simp, rfl⟩⟩
  · refine ⟨b :: (bss.take k).flatten, Or.inr ⟨b, o, bss.take k, ha, hb, rfl, by simp [hl], fun i hi => ?_⟩⟩
    simp only [List.length_take] at hi
    have e1 : nth (l.take k) i = nth l i := by simp only [nth, List.getD_eq_getElem?_getD]; rw [List.getElem?_take, if_pos (by omega)]
    have e2 : nth (bss.take k) i = nth bss i := by simp only [nth, List.getD_eq_getElem?_getD]; rw [List.getElem?_take, if_pos (by omega)]
    rw [e1, e2]
    exact he i (by omega)
theorem mem_take_nth {l : List ByteArray} {k : Nat} {s : ByteArray} : (0 ≤ strIx (l.take k) s) ↔ s ∈ l.take k := by
  have := findIx_any (fun x => decide (x = s)) (l.take k)
  unfold strIx
  have h2 : (l.take k).any (fun x => decide (x = s)) = true ↔ s ∈ l.take k := by
    rw [List.any_eq_true]; exact ⟨fun ⟨x, hx, e⟩ => by simp at e; rw [← e]; exact hx, fun h => ⟨s, h, by simp⟩⟩
  rw [← h2, ← this]; simp
theorem nodup_iff_take {l : List ByteArray} : l.Nodup ↔ ∀ k, k < l.length → nth l k ∉ l.take k := by
  unfold List.Nodup
  rw [List.pairwise_iff_getElem]
  constructor
  · intro h k hk hm
    obtain ⟨j, hj, e⟩ := List.getElem_of_mem hm
    simp only [List.length_take] at hj
    rw [nth_get hk, List.getElem_take] at e
    exact h j k (by omega) hk (by omega) e
  · intro h i j hi hj hij e
    apply h j hj
    rw [nth_get hj, ← e, List.mem_take_iff_getElem]
    exact ⟨i, by omega, rfl⟩

end Go.Proofs.Ytcmedjlpaondjaa
