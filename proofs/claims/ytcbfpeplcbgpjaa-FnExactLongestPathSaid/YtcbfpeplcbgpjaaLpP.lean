/- The longest way through a set of states: the plain law. No condition. -/
import Derived.Test.YtcbfpeplcbgpjaaPut
set_option linter.unusedSimpArgs false
set_option linter.unusedVariables false
namespace Go.Proofs.Ytcbfpeplcbgpjaa
open Go.ChangeShapes Go.WideShapes Go.ChangeAt Go.RowKit

def mxI (a b : Int) : Int := if a < b then b else a
theorem mxI_l (a b : Int) : a ≤ mxI a b := by unfold mxI; split <;> omega
theorem mxI_r (a b : Int) : b ≤ mxI a b := by unfold mxI; split <;> omega
theorem mxI_or (a b : Int) : mxI a b = a ∨ mxI a b = b := by unfold mxI; split <;> simp
def bigL (l : List Int) : Int := l.foldl mxI 0
theorem big_fold : ∀ (l : List Int) (m : Int), m ≤ l.foldl mxI m ∧ (∀ x ∈ l, x ≤ l.foldl mxI m) ∧ (l.foldl mxI m = m ∨ l.foldl mxI m ∈ l)
  | [], m => ⟨Int.le_refl _, by simp, Or.inl rfl⟩
  | y :: l, m => by
    obtain ⟨h1, h2, h3⟩ := big_fold l (mxI m y)
    rw [List.foldl_cons]
    have h4 := mxI_l m y
    have h5 := mxI_r m y
    refine ⟨by omega, fun x hx => ?_, ?_⟩
    · rcases List.mem_cons.1 hx with rfl | hx
      · omega
      · exact h2 x hx
    · rcases h3 with h3 | h3
      · rcases mxI_or m y with e | e
        · left; rw [h3, e]
        · right; rw [h3, e]; exact List.mem_cons_self ..
      · exact Or.inr (List.mem_cons_of_mem _ h3)
theorem bigL_ge (l : List Int) : 0 ≤ bigL l := (big_fold l 0).1
theorem bigL_up {l : List Int} {x : Int} (h : x ∈ l) : x ≤ bigL l := (big_fold l 0).2.1 x h
theorem bigL_in (l : List Int) : bigL l = 0 ∨ bigL l ∈ l := (big_fold l 0).2.2
theorem bigL_le {l : List Int} {m : Int} (h0 : 0 ≤ m) (h : ∀ x ∈ l, x ≤ m) : bigL l ≤ m := by
  rcases bigL_in l with e | e
  · omega
  · exact h _ e
theorem bigL_ext {l l' : List Int} (h : ∀ x, x ∈ l ↔ x ∈ l') : bigL l = bigL l' := by
  have h1 : bigL l ≤ bigL l' := bigL_le (bigL_ge _) fun x hx => bigL_up ((h x).1 hx)
  have h2 : bigL l' ≤ bigL l := bigL_le (bigL_ge _) fun x hx => bigL_up ((h x).2 hx)
  omega
theorem bigL_snoc (l : List Int) (x : Int) : bigL (l ++ [x]) = mxI (bigL l) x := by simp [bigL]
theorem bigL_had {l : List Int} {x : Int} (h : x ∈ l) : bigL (l ++ [x]) = bigL l :=
  bigL_ext fun y => by
    rw [List.mem_append, List.mem_singleton]
    exact ⟨fun h' => h'.elim id (fun e => e ▸ h), Or.inl⟩

def lpP (set met : List Int) (k : Int) (a : ArcD) : Bool := decide (a.src = k) && (decide (a.dst ∈ set) && !decide (a.dst ∈ met))
def lp (E : List ArcD) (set : List Int) : Nat → Int → List Int → Int
  | 0, _, _ => 0
  | n + 1, k, met => bigL ((E.filter (lpP set met k)).map fun a => 1 + lp E set n a.dst (a.dst :: met))
theorem lp_ext {E E' : List ArcD} {set : List Int} (he : ∀ s d, (∃ a ∈ E, a.src = s ∧ a.dst = d) ↔ (∃ a ∈ E', a.src = s ∧ a.dst = d)) : ∀ (n : Nat) (k : Int) {met met' : List Int}, (∀ x, x ∈ met ↔ x ∈ met') → lp E set n k met = lp E' set n k met'
  | 0, _, _, _, _ => rfl
  | n + 1, k, met, met', hm => by
    simp only [lp]
    have one : ∀ {E E' : List ArcD} {met met' : List Int}, (∀ s d, (∃ a ∈ E, a.src = s ∧ a.dst = d) → (∃ a ∈ E', a.src = s ∧ a.dst = d)) → (∀ x, x ∈ met ↔ x ∈ met') → (∀ d, lp E set n d (d :: met) = lp E' set n d (d :: met')) → ∀ x, x ∈ ((E.filter (lpP set met k)).map fun a => 1 + lp E set n a.dst (a.dst :: met)) → x ∈ ((E'.filter (lpP set met' k)).map fun a => 1 + lp E' set n a.dst (a.dst :: met')) := by
      intro E E' met met' he hm hl x hx
      obtain ⟨a, ha, rfl⟩ := List.mem_map.1 hx
      obtain ⟨ha, hp⟩ := List.mem_filter.1 ha
      obtain ⟨b, hb, e1, e2⟩ := he a.src a.dst ⟨a, ha, rfl, rfl⟩
      refine List.mem_map.2 ⟨b, List.mem_filter.2 ⟨hb, ?_⟩, by rw [e2, hl]⟩
      simp only [lpP, e1, e2, Bool.and_eq_true, decide_eq_true_eq, Bool.not_eq_true', decide_eq_false_iff_not] at hp ⊢
      exact ⟨hp.1, hp.2.1, fun h => hp.2.2 ((hm _).2 h)⟩
    have hl : ∀ d, lp E set n d (d :: met) = lp E' set n d (d :: met') := fun d => lp_ext he n d fun x => by rw [List.mem_cons, List.mem_cons, hm]
    exact bigL_ext fun x => ⟨one (fun s d => (he s d).1) hm hl x, one (fun s d => (he s d).2) (fun x => (hm x).symm) (fun d => (hl d).symm) x⟩
theorem lp_same {E : List ArcD} {set : List Int} (n : Nat) (k : Int) {met met' : List Int} (h : ∀ x, x ∈ met ↔ x ∈ met') : lp E set n k met = lp E set n k met' := lp_ext (fun _ _ => Iff.rfl) n k h
theorem lp_range (E : List ArcD) (set : List Int) : ∀ (n : Nat) (k : Int) (met : List Int), 0 ≤ lp E set n k met ∧ lp E set n k met ≤ n
  | 0, _, _ => by simp [lp]
  | n + 1, k, met => by
    simp only [lp]
    refine ⟨bigL_ge _, bigL_le (by omega) fun x hx => ?_⟩
    obtain ⟨a, _, rfl⟩ := List.mem_map.1 hx
    have := lp_range E set n a.dst (a.dst :: met)
    omega
def restL (set met : List Int) : Nat := (set.filter fun x => !decide (x ∈ met)).length
theorem rest_le (set met : List Int) : restL set met ≤ set.length := List.length_filter_le _ _
theorem rest_lt {set met : List Int} {x : Int} (hx : x ∈ set) (hm : x ∉ met) : restL set (x :: met) < restL set met := by
  unfold restL
  have e : (set.filter fun y => !decide (y ∈ x :: met)) = (set.filter fun y => !decide (y ∈ met)).filter fun y => !decide (y = x) := by
    rw [List.filter_filter]
    congr 1
    funext y
    by_cases h1 : y = x <;> by_cases h2 : y ∈ met <;> simp [h1, h2]
  rw [e, List.length_filter_lt_length_iff_exists]
  exact ⟨x, List.mem_filter.2 ⟨hx, by simp [hm]⟩, by simp⟩
theorem rest_ext (set : List Int) {met met' : List Int} (h : ∀ x, x ∈ met ↔ x ∈ met') : restL set met = restL set met' := by
  simp only [restL, h]
theorem rest_zero {set met : List Int} (h : restL set met = 0) {x : Int} (hx : x ∈ set) : x ∈ met := by
  refine Classical.byContradiction fun hm => ?_
  have := rest_lt hx hm
  omega
/-- Enough fuel is enough. -/
theorem lp_none {E : List ArcD} {set met : List Int} {k : Int} (h : restL set met = 0) : E.filter (lpP set met k) = [] := by
  refine List.filter_eq_nil_iff.2 fun a _ => ?_
  simp only [lpP, Bool.and_eq_true, decide_eq_true_eq, Bool.not_eq_true', decide_eq_false_iff_not]
  rintro ⟨_, h1, h2⟩
  exact h2 (rest_zero h h1)
/-- The value at the first i of some arcs. -/
def lpF (E l : List ArcD) (set met : List Int) (n : Nat) (k : Int) : List Int := (l.filter (lpP set met k)).map fun a => 1 + lp E set n a.dst (a.dst :: met)
theorem lpF_no {E l : List ArcD} {set met : List Int} {n : Nat} {k : Int} {i : Nat} (hi : i < l.length) (h : lpP set met k (nth l i) = false) : lpF E (l.take (i + 1)) set met n k = lpF E (l.take i) set met n k := by
  unfold lpF; rw [fil_no hi h]
theorem lpF_yes {E l : List ArcD} {set met : List Int} {n : Nat} {k : Int} {i : Nat} (hi : i < l.length) (h : lpP set met k (nth l i) = true) : lpF E (l.take (i + 1)) set met n k = lpF E (l.take i) set met n k ++ [1 + lp E set n (nth l i).dst ((nth l i).dst :: met)] := by
  unfold lpF; rw [fil_yes hi h]; simp
theorem lpF_all {E : List ArcD} {set met : List Int} {n : Nat} {k : Int} : bigL (lpF E (E.filter fun a => decide (a.src = k)) set met n k) = lp E set (n + 1) k met := by
  simp only [lp, lpF, List.filter_filter]
  congr 3
  funext a
  simp only [lpP]
  cases decide (a.src = k) <;> simp
def tryL (l : List ArcD) (set met : List Int) (k : Int) : List Int := (l.filter (lpP set met k)).map fun a => a.dst
theorem tryL_yes {l : List ArcD} {set met : List Int} {k : Int} {i : Nat} (hi : i < l.length) (h : lpP set met k (nth l i) = true) : tryL (l.take (i + 1)) set met k = tryL (l.take i) set met k ++ [(nth l i).dst] := by
  unfold tryL; rw [fil_yes hi h]; simp
theorem tryL_no {l : List ArcD} {set met : List Int} {k : Int} {i : Nat} (hi : i < l.length) (h : lpP set met k (nth l i) = false) : tryL (l.take (i + 1)) set met k = tryL (l.take i) set met k := by
  unfold tryL; rw [fil_no hi h]
theorem try_had {E l : List ArcD} {set met : List Int} {n : Nat} {k x : Int} (h : x ∈ tryL l set met k) : 1 + lp E set n x (x :: met) ∈ lpF E l set met n k := by
  obtain ⟨a, ha, rfl⟩ := List.mem_map.1 h
  exact List.mem_map.2 ⟨a, ha, rfl⟩
noncomputable def lpV (E : List ArcD) (set : List Int) : Int := bigL (set.map fun k => lp E set set.length k [k])
theorem lpV_range (E : List ArcD) (set : List Int) : 0 ≤ lpV E set ∧ lpV E set ≤ set.length := by
  refine ⟨bigL_ge _, bigL_le (by omega) fun x hx => ?_⟩
  obtain ⟨k, _, rfl⟩ := List.mem_map.1 hx
  exact (lp_range E set _ _ _).2
theorem lpV_ext {E E' : List ArcD} {set : List Int} (he : ∀ s d, (∃ a ∈ E, a.src = s ∧ a.dst = d) ↔ (∃ a ∈ E', a.src = s ∧ a.dst = d)) : lpV E set = lpV E' set := by
  unfold lpV
  congr 2
  funext k
  exact lp_ext he _ _ fun _ => Iff.rfl
end Go.Proofs.Ytcbfpeplcbgpjaa
