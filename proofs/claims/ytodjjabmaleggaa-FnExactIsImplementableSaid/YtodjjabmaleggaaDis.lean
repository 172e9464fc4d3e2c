/- Disabling arcs: what the reference's and the program's functions hand back. No condition. -/
import Derived.Test.YtodjjabmaleggaaMask
import Derived.Test.YtodjjabmaleggaaSgc
set_option linter.unusedSimpArgs false
set_option linter.unusedVariables false
namespace Go.Proofs.Ytodjjabmaleggaa
open Go.ChangeShapes Go.WideShapes Go.ChangeAt Go.RowKit

theorem sigs_of {c : SGraph} (h : goodSG c = true) : sigsLe c.arcs := by
  intro a ha
  have hl := goodSG_len h
  simp only [goodSG, sgB, Bool.and_eq_true] at h
  have h1 := List.all_eq_true.1 h.1.2.2 a ha
  simp only [arcB, labB, Bool.and_eq_true, Bool.or_eq_true, decide_eq_true_eq] at h1
  omega
theorem ends_ok {c : SGraph} (h : goodSG c = true) : EndsOk c := by
  simp only [goodSG, sgB, Bool.and_eq_true] at h
  exact ends_of h.1.2.2

/-- The arc i disables an edge of the signal. -/
def disU (c : SGraph) (sig : Int) (up : Bool) (i : Nat) : Bool := !decide ((nth c.arcs i).sig = sig) && (hasA c.arcs (nth c.arcs i).src sig up && !hasA c.arcs (nth c.arcs i).dst sig up)
def disP (c : SGraph) (sig : Int) (i : Nat) : Bool := disU c sig false i || disU c sig true i
theorem disP_eq (c : SGraph) (sig : Int) (i : Nat) : disP c sig i = (!decide ((nth c.arcs i).sig = sig) && ((hasA c.arcs (nth c.arcs i).src sig false && !hasA c.arcs (nth c.arcs i).dst sig false) || (hasA c.arcs (nth c.arcs i).src sig true && !hasA c.arcs (nth c.arcs i).dst sig true))) := by
  rw [disP, disU, disU, Bool.and_or_distrib_left]
def disL (c : SGraph) (sig : Int) : List Int := pickN (disP c sig) c.arcs.length
noncomputable def disR (c : SGraph) (sig : Int) : List Int := if askB c sig then disL c sig else []
theorem disR_len (c : SGraph) (sig : Int) : (disR c sig).length ≤ 4000 := by
  unfold disR
  split
  · rename_i h
    have := goodSG_len (askB_good h).1; have := pickN_len (disP c sig) c.arcs.length
    unfold disL; omega
  · simp

theorem mask_test {l : List ArcD} {n : Nat} {s t sig : Int} (hl : sigsLe l) (hs : 0 ≤ s ∧ s < n) (ht : 0 ≤ t ∧ t < n) (hg : 0 ≤ sig ∧ sig ≤ 7) :
    decide (andI (andNotI (nth (mskL l n) s.toNat) (nth (mskL l n) t.toNat) / 2 ^ (2 * sig).toNat) 3 = 0) = !((hasA l s sig false && !hasA l t sig false) || (hasA l s sig true && !hasA l t sig true)) := by
  obtain ⟨g, rfl⟩ := Int.eq_ofNat_of_zero_le hg.1
  have h1 := mskN_lt s hl
  have h2 := lessBits_le (mskN l s) (mskN l t) h1
  rw [mskL_nth (k := s.toNat) (by omega), mskL_nth (k := t.toNat) (by omega), Int.toNat_of_nonneg hs.1, Int.toNat_of_nonneg ht.1, andNotI_nat h1, show (2 * (g : Int)).toNat = 2 * g by omega]
  have e : ((lessBits (mskN l s) (mskN l t) : Nat) : Int) / 2 ^ (2 * g) = ((lessBits (mskN l s) (mskN l t) / 2 ^ (2 * g) : Nat) : Int) := by simp
  have h3 : lessBits (mskN l s) (mskN l t) / 2 ^ (2 * g) < 65536 := Nat.lt_of_le_of_lt (Nat.div_le_self _ _) h2
  rw [e, andI_three _ h3]
  have hb : ∀ up, (lessBits (mskN l s) (mskN l t)).testBit (lbit g up) = (hasA l s g up && !hasA l t g up) := fun up => by
    rw [lessBits_bit h1 (by unfold lbit; split <;> omega), mskN_bit, mskN_bit]
  have key := bits_of (x := lessBits (mskN l s) (mskN l t)) (sig := g)
  rw [hb, hb] at key
  rw [Bool.eq_iff_iff, decide_eq_true_eq, Bool.not_eq_true', Bool.or_eq_false_iff, ← key]
  omega

/-! ### The reference -/
theorem exL_has (c : SGraph) (x sig : Int) (up : Bool) : decide (x ∈ exL c.arcs sig up) = hasA c.arcs x sig up := by
  rw [Bool.eq_iff_iff, decide_eq_true_eq, exL_mem, hasA, List.any_eq_true]
  constructor
  · rintro ⟨a, h1, h2, h3⟩; exact ⟨a, h1, by rw [h2, h3]; simp⟩
  · rintro ⟨a, h1, h2⟩
    simp only [Bool.and_eq_true, decide_eq_true_eq] at h2
    exact ⟨a, h1, h2.2, h2.1⟩
def putAll (r l : List Int) : List Int := l.foldl putI r
theorem putAll_snoc (r l : List Int) (x : Int) : putAll r (l ++ [x]) = putI (putAll r l) x := by simp [putAll, List.foldl_append]
/-- What the reference's list is behind so many kinds of labels. -/
def disO (c : SGraph) (sig : Int) : Nat → List Int
  | 0 => []
  | u + 1 => putAll (disO c sig u) (pickN (disU c sig (nth [false, true] u)) c.arcs.length)
theorem putAll_spec (l r : List Int) (h : Inc r) : Inc (putAll r l) ∧ (∀ x, x ∈ putAll r l ↔ x ∈ r ∨ x ∈ l) ∧ (putAll r l).length ≤ r.length + l.length := by
  have := put_fold (fun x : Int => x) l r h
  exact ⟨this.1, fun x => by have h := this.2.1 x; simp only [exists_eq_right] at h; exact h, this.2.2⟩
theorem disO_inc (c : SGraph) (sig : Int) : ∀ u, Inc (disO c sig u)
  | 0 => by simp [disO, Inc]
  | u + 1 => (putAll_spec _ _ (disO_inc c sig u)).1
theorem disO_len (c : SGraph) (sig : Int) : ∀ u, (disO c sig u).length ≤ u * c.arcs.length
  | 0 => by simp [disO]
  | u + 1 => by
    have h1 := disO_len c sig u
    have h2 := (putAll_spec (pickN (disU c sig (nth [false, true] u)) c.arcs.length) _ (disO_inc c sig u)).2.2
    have h3 := pickN_len (disU c sig (nth [false, true] u)) c.arcs.length
    rw [Nat.add_mul]; simp only [disO]; omega
theorem pickN_mem {p : Nat → Bool} {n : Nat} {x : Int} : x ∈ pickN p n ↔ ∃ i : Nat, i < n ∧ p i = true ∧ (i : Int) = x := by
  simp [pickN, and_assoc]
theorem pickN_inc (p : Nat → Bool) (n : Nat) : Inc (pickN p n) := by
  unfold pickN Inc
  rw [List.pairwise_map]
  refine List.Pairwise.imp (fun h => by omega) ((List.pairwise_lt_range).filter _)
theorem disO_two (c : SGraph) (sig : Int) : disO c sig 2 = disL c sig := by
  refine inc_ext (disO_inc c sig 2) (pickN_inc _ _) fun x => ?_
  have h1 := (putAll_spec (pickN (disU c sig true) c.arcs.length) _ (disO_inc c sig 1)).2.1 x
  have h0 := (putAll_spec (pickN (disU c sig false) c.arcs.length) _ (disO_inc c sig 0)).2.1 x
  show x ∈ putAll (disO c sig 1) (pickN (disU c sig true) c.arcs.length) ↔ x ∈ disL c sig
  rw [h1, show disO c sig 1 = putAll (disO c sig 0) (pickN (disU c sig false) c.arcs.length) from rfl, h0, disL, pickN_mem, pickN_mem, pickN_mem]
  simp only [disO, List.not_mem_nil, false_or, disP, Bool.or_eq_true]
  constructor
  · rintro (⟨i, a, b, e⟩ | ⟨i, a, b, e⟩)
    · exact ⟨i, a, Or.inl b, e⟩
    · exact ⟨i, a, Or.inr b, e⟩
  · rintro ⟨i, a, b | b, e⟩
    · exact Or.inl ⟨i, a, b, e⟩
    · exact Or.inr ⟨i, a, b, e⟩

end Go.Proofs.Ytodjjabmaleggaa
