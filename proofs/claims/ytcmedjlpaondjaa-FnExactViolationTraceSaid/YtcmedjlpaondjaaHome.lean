/- Home states: what the reference's and the program's functions hand back. No condition. -/
import Derived.Test.YtcmedjlpaondjaaSgb
import Derived.Test.YtcmedjlpaondjaaReach
import Derived.Test.YtcmedjlpaondjaaDist
set_option linter.unusedSimpArgs false
set_option linter.unusedVariables false
namespace Go.Proofs.Ytcmedjlpaondjaa
open Go.ChangeShapes Go.WideShapes Go.ChangeAt Go.RowKit

/-! ### What is reached from a place -/
structure MetS (E : List (Int × Int)) (s0 : Int) (n r : Nat) (l : List Bool) : Prop where
  len : l.length = n
  sound : ∀ v : Int, 0 ≤ v → v < n → metAt l v = true → 0 ≤ dist E s0 v
  full : ∀ v : Int, 0 ≤ v → v < n → 0 ≤ dist E s0 v → dist E s0 v ≤ r → metAt l v = true
theorem metS_init {E : List (Int × Int)} {s0 : Int} {n : Nat} (hs : 0 ≤ s0 ∧ s0 < n) : MetS E s0 n 0 ((List.replicate n false).set s0.toNat true) := by
  have hat : ∀ v : Int, 0 ≤ v → v < n → metAt ((List.replicate n false).set s0.toNat true) v = decide (v = s0) := by
    intro v h0 h1
    rw [metAt_set (by simp; omega) h0]
    split
    · rename_i e; simp [e]
    · rename_i e; unfold metAt; rw [nth_get (by simp; omega)]; simp [e]
  refine ⟨by simp, fun v h0 h1 h2 => ?_, fun v h0 h1 h2 h3 => ?_⟩
  · rw [hat v h0 h1, decide_eq_true_eq] at h2; subst h2; rw [dist_start]; exact Int.le_refl _
  · rw [hat v h0 h1, decide_eq_true_eq]
    have h4 : dist E s0 v = ((0 : Nat) : Int) := by omega
    have hw := dist_walk h2
    rw [h4] at hw
    cases hw; rfl
/-- In the middle of a round. -/
structure MetSR (E : List (Int × Int)) (s0 : Int) (n r k : Nat) (l : List Bool) : Prop where
  len : l.length = n
  sound : ∀ v : Int, 0 ≤ v → v < n → metAt l v = true → 0 ≤ dist E s0 v
  full : ∀ v : Int, 0 ≤ v → v < n → 0 ≤ dist E s0 v → dist E s0 v ≤ r → metAt l v = true
  seen : ∀ j, j < k → j < E.length → 0 ≤ dist E s0 (nth E j).1 → dist E s0 (nth E j).1 ≤ r → metAt l (nth E j).2 = true
section
variable {E : List (Int × Int)} {s0 : Int} {n r k : Nat} {l : List Bool}
theorem metSR_init (h : MetS E s0 n r l) : MetSR E s0 n r 0 l := ⟨h.len, h.sound, h.full, fun j hj => by omega⟩
theorem metSR_yes (h : MetSR E s0 n r k l) (hk : k < E.length) (hE : ∀ e ∈ E, (0 ≤ e.1 ∧ e.1 < n) ∧ 0 ≤ e.2 ∧ e.2 < n) (hm : metAt l (nth E k).1 = true) : MetSR E s0 n r (k + 1) (l.set (nth E k).2.toNat true) := by
  have hb := hE _ (nth_mem hk)
  have hl := h.len
  have hat : ∀ x : Int, 0 ≤ x → metAt (l.set (nth E k).2.toNat true) x = if x = (nth E k).2 then true else metAt l x := fun x hx => metAt_set (by omega) hx
  have hd := h.sound _ hb.1.1 hb.1.2 hm
  have hd2 := dist_step (show ((nth E k).1, (nth E k).2) ∈ E from nth_mem hk) hd
  refine ⟨by simpa using hl, fun v h0 h1 h2 => ?_, fun v h0 h1 h2 h3 => ?_, fun j hj hjl h2 h3 => ?_⟩
  · rw [hat v h0] at h2
    split at h2
    · rename_i e; subst e; exact hd2.1
    · exact h.sound v h0 h1 h2
  · rw [hat v h0]; split
    · rfl
    · exact h.full v h0 h1 h2 h3
  · rw [hat _ (hE _ (nth_mem hjl)).2.1]
    split
    · rfl
    · rename_i hne
      rcases Nat.lt_or_ge j k with h4 | h4
      · exact h.seen j h4 hjl h2 h3
      · have : j = k := by omega
        subst this; exact absurd rfl hne
theorem metSR_no (h : MetSR E s0 n r k l) (hk : k < E.length) (hE : ∀ e ∈ E, (0 ≤ e.1 ∧ e.1 < n) ∧ 0 ≤ e.2 ∧ e.2 < n) (hm : ¬ metAt l (nth E k).1 = true) : MetSR E s0 n r (k + 1) l := by
  refine ⟨h.len, h.sound, h.full, fun j hj hjl h2 h3 => ?_⟩
  rcases Nat.lt_or_ge j k with h4 | h4
  · exact h.seen j h4 hjl h2 h3
  · have : j = k := by omega
    subst this
    have hb := hE _ (nth_mem hjl)
    exact absurd (h.full _ hb.1.1 hb.1.2 h2 h3) hm
theorem metSR_end (h : MetSR E s0 n r k l) (hk : ¬ k < E.length) (hE : ∀ e ∈ E, (0 ≤ e.1 ∧ e.1 < n) ∧ 0 ≤ e.2 ∧ e.2 < n) : MetS E s0 n (r + 1) l := by
  refine ⟨h.len, h.sound, fun v h0 h1 h2 h3 => ?_⟩
  by_cases h4 : dist E s0 v ≤ r
  · exact h.full v h0 h1 h2 h4
  · obtain ⟨u, hu, e⟩ := dist_pred (show 0 < dist E s0 v by omega)
    obtain ⟨j, hj, e1⟩ := List.getElem_of_mem hu
    have := h.seen j (by omega) hj
    rw [nth_get hj, e1] at this
    exact this (by dsimp only; omega) (by dsimp only; omega)
theorem metS_all (h : MetS E s0 n r l) (hr : n ≤ r) (hs : 0 ≤ s0 ∧ s0 < n) (hE : ∀ e ∈ E, (0 ≤ e.1 ∧ e.1 < n) ∧ 0 ≤ e.2 ∧ e.2 < n) : (∀ v : Nat, v < n → nth l v = true) ↔ ∀ v : Nat, v < n → 0 ≤ dist E s0 v := by
  constructor
  · intro h1 v hv
    exact h.sound v (by omega) (by omega) (by unfold metAt; rw [Int.toNat_natCast]; exact h1 v hv)
  · intro h1 v hv
    have h2 := dist_lt (v := (v : Int)) (fun e he => (hE e he).2) hs
    have := h.full v (by omega) (by omega) (h1 v hv) (by omega)
    unfold metAt at this; rw [Int.toNat_natCast] at this; exact this
end

/-! ### The plain part -/
def mvE (l : List Mv) : List (Int × Int) := l.map fun m => (m.src, m.dst)
def mvB' (l : List Mv) : List (Int × Int) := l.map fun m => (m.dst, m.src)
theorem mvE_len (l : List Mv) : (mvE l).length = l.length := by simp [mvE]
theorem mvB_len (l : List Mv) : (mvB' l).length = l.length := by simp [mvB']
theorem mvE_nth {l : List Mv} {k : Nat} (h : k < l.length) : nth (mvE l) k = ((nth l k).src, (nth l k).dst) := by
  rw [nth_get (by rw [mvE_len]; exact h), nth_get h]; simp [mvE]
theorem mvB_nth {l : List Mv} {k : Nat} (h : k < l.length) : nth (mvB' l) k = ((nth l k).dst, (nth l k).src) := by
  rw [nth_get (by rw [mvB_len]; exact h), nth_get h]; simp [mvB']
theorem mvB_ok {r : RGraph} (h : goodReach r = true) : ∀ e ∈ mvB' r.moves, (0 ≤ e.1 ∧ e.1 < r.marks.length) ∧ 0 ≤ e.2 ∧ e.2 < r.marks.length := by
  intro e he
  obtain ⟨m, hm, rfl⟩ := List.mem_map.1 he
  have := goodReach_mv h m hm
  exact ⟨this.2.1, this.1⟩
/-- Whether there is a way back, for each mark. -/
noncomputable def backL (r : RGraph) (k : Int) : List Bool := (List.range r.marks.length).map fun v : Nat => decide (0 ≤ dist (mvB' r.moves) k v)
theorem backL_len (r : RGraph) (k : Int) : (backL r k).length = r.marks.length := by simp [backL]
noncomputable def hmP (r : RGraph) (k : Nat) : Bool := (backL r k).all id
noncomputable def hmL (r : RGraph) : List Int := if goodReach r then pickN (hmP r) r.marks.length else []
theorem hmL_len (r : RGraph) : (hmL r).length ≤ 1048576 := by
  unfold hmL
  split
  · rename_i h
    have := goodReach_len h
    have := pickN_len (hmP r) r.marks.length
    omega
  · simp
theorem backL_of {r : RGraph} {k : Int} {l : List Bool} (h : MetS (mvB' r.moves) k r.marks.length r.marks.length l) (hg : goodReach r = true) (hk : 0 ≤ k ∧ k < r.marks.length) : l = backL r k := by
  refine List.ext_getElem (by rw [h.len, backL_len]) fun i h1 h2 => ?_
  have hi : i < r.marks.length := by rw [← h.len]; exact h1
  have e1 : metAt l (i : Int) = l[i] := by unfold metAt; rw [Int.toNat_natCast, nth_get h1]
  have e2 : (backL r k)[i] = decide (0 ≤ dist (mvB' r.moves) k i) := by simp [backL]
  rw [e2, ← e1, Bool.eq_iff_iff, decide_eq_true_eq]
  have hlt := dist_lt (v := (i : Int)) (fun e he => (mvB_ok hg e he).2) hk
  exact ⟨fun q => h.sound i (by omega) (by omega) q, fun q => h.full i (by omega) (by omega) q (by omega)⟩
theorem hmP_iff (r : RGraph) (k : Nat) : hmP r k = true ↔ ¬ (-1 : Int) ∈ distL r.marks.length (mvB' r.moves) k := by
  rw [hmP, List.all_eq_true]
  constructor
  · intro h hm
    obtain ⟨v, hv, e⟩ := List.mem_map.1 hm
    have h1 := h (decide (0 ≤ dist (mvB' r.moves) k v)) (List.mem_map.2 ⟨v, hv, rfl⟩)
    simp only [id, decide_eq_true_eq] at h1
    omega
  · intro h b hb
    obtain ⟨v, hv, rfl⟩ := List.mem_map.1 hb
    have h1 : ¬ dist (mvB' r.moves) k v = -1 := fun e => h (List.mem_map.2 ⟨v, hv, e⟩)
    have := dist_ge (E := mvB' r.moves) (s := (k : Int)) (v := (v : Int))
    simp only [id, decide_eq_true_eq]; omega

/-! ### The walks -/

end Go.Proofs.Ytcmedjlpaondjaa
