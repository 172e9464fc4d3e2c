/- Graphs: walks, distances, what is reached; no program in sight. No condition. -/
import Derived.Test.YtidfmgahnmpcdaaAbsR
set_option linter.unusedSimpArgs false
set_option linter.unusedVariables false
namespace Go.Proofs.Ytidfmgahnmpcdaa

/-- A walk of m edges from s to v. -/
inductive Walk (E : List (Int × Int)) (s : Int) : Nat → Int → Prop
  | zero : Walk E s 0 s
  | step {m : Nat} {u v : Int} : Walk E s m u → (u, v) ∈ E → Walk E s (m + 1) v
open Classical in
/-- The least number of edges that lead from s to v, -1 where none do. -/
noncomputable def dist (E : List (Int × Int)) (s v : Int) : Int := if ∃ m, Walk E s m v then (leastOf (fun m => Walk E s m v) : Int) else -1

section
variable {E : List (Int × Int)} {s u v : Int} {m n : Nat}
theorem dist_le (h : Walk E s m v) : 0 ≤ dist E s v ∧ dist E s v ≤ m := by
  have := (leastOf_spec (p := fun m => Walk E s m v) h).2 m h
  unfold dist
  rw [if_pos ⟨m, h⟩]
  omega
theorem dist_walk (h : 0 ≤ dist E s v) : Walk E s (dist E s v).toNat v := by
  unfold dist at *
  split at h
  · rename_i hm
    obtain ⟨m, hm⟩ := hm
    rw [if_pos ⟨m, hm⟩, Int.toNat_natCast]
    exact (leastOf_spec (p := fun m => Walk E s m v) hm).1
  · omega
theorem dist_ge : -1 ≤ dist E s v := by
  unfold dist; split <;> omega
theorem dist_start : dist E s s = 0 := by
  have := dist_le (Walk.zero (E := E) (s := s)); omega
theorem dist_step (h : (u, v) ∈ E) (hu : 0 ≤ dist E s u) : 0 ≤ dist E s v ∧ dist E s v ≤ dist E s u + 1 := by
  have := dist_le (Walk.step (dist_walk hu) h); omega
theorem dist_pred (h : 0 < dist E s v) : ∃ u, (u, v) ∈ E ∧ dist E s u = dist E s v - 1 := by
  have hw := dist_walk (Int.le_of_lt h)
  generalize hm : (dist E s v).toNat = m at hw
  cases hw with
  | zero => omega
  | step hw he =>
    have h1 := dist_le hw
    have h2 := dist_step he h1.1
    exact ⟨_, he, by omega⟩
theorem filter_both {α : Type} (p : α → Bool) : ∀ l : List α, l.length = (l.filter p).length + (l.filter fun x => !p x).length
  | [] => rfl
  | x :: l => by
    have := filter_both p l
    cases h : p x <;> simp [h] <;> omega
/-- Numbers below n, each once: n of them at most. -/
theorem nodup_len : ∀ (n : Nat) {l : List Nat}, l.Nodup → (∀ x ∈ l, x < n) → l.length ≤ n
  | 0, l, _, h => by
    cases l with
    | nil => simp
    | cons x l => have := h x (by simp); omega
  | n + 1, l, hd, h => by
    have h1 : (l.filter fun x => decide (x < n)).length ≤ n := nodup_len n (hd.sublist List.filter_sublist) fun x hx => by simpa using (List.mem_filter.1 hx).2
    have h2 : (l.filter fun x => !decide (x < n)).length ≤ 1 := by
      have : ∀ x ∈ l.filter (fun x => !decide (x < n)), x = n := fun x hx => by
        have := List.mem_filter.1 hx
        have h3 := h x this.1
        have h4 := this.2
        simp at h4; omega
      have hnd := hd.sublist (List.filter_sublist (p := fun x => !decide (x < n)))
      generalize l.filter (fun x => !decide (x < n)) = l' at *
      match l' with
      | [] => simp
      | [_] => simp
      | x :: y :: l'' =>
        have e1 := this x (by simp); have e2 := this y (by simp)
        subst e1; subst e2; simp at hnd
    have h3 := filter_both (fun x => decide (x < n)) l
    omega
theorem dist_all (hE : ∀ e ∈ E, 0 ≤ e.2 ∧ e.2 < n) (hs : 0 ≤ s ∧ s < n) : ∀ (k : Nat) {v : Int}, dist E s v = k → ∃ l : List Int, l.length = k + 1 ∧ (∀ x ∈ l, 0 ≤ x ∧ x < n) ∧ l.Nodup ∧ ∀ x ∈ l, dist E s x ≤ k
  | 0, v, h => by
    have hw := dist_walk (E := E) (s := s) (v := v) (by omega)
    rw [h] at hw
    cases hw
    exact ⟨[s], rfl, by simpa using hs, by simp, by simp [h]⟩
  | k + 1, v, h => by
    obtain ⟨u, he, hu⟩ := dist_pred (E := E) (s := s) (v := v) (by omega)
    obtain ⟨l, h1, h2, h3, h4⟩ := dist_all hE hs k (v := u) (by omega)
    refine ⟨v :: l, by simp [h1], ?_, ?_, ?_⟩
    · intro x hx
      rcases List.mem_cons.1 hx with rfl | hx
      · exact hE _ he
      · exact h2 x hx
    · refine List.nodup_cons.2 ⟨fun hv => ?_, h3⟩
      have := h4 v hv; omega
    · intro x hx
      rcases List.mem_cons.1 hx with rfl | hx
      · omega
      · have := h4 x hx; omega
theorem dist_lt (hE : ∀ e ∈ E, 0 ≤ e.2 ∧ e.2 < n) (hs : 0 ≤ s ∧ s < n) : dist E s v < n := by
  rcases Int.lt_or_le (dist E s v) 0 with h | h
  · omega
  · obtain ⟨l, h1, h2, h3, _⟩ := dist_all hE hs (dist E s v).toNat (v := v) (by omega)
    have h4 : (l.map Int.toNat).Nodup := by
      have key : ∀ {l : List Int}, l.Nodup → (∀ x ∈ l, 0 ≤ x ∧ x < n) → (l.map Int.toNat).Nodup := by
        intro l
        induction l with
        | nil => intro _ _; simp
        | cons x l ih =>
          intro hd hb
          rw [List.map_cons, List.nodup_cons]
          refine ⟨fun hm => ?_, ih (List.nodup_cons.1 hd).2 fun y hy => hb y (List.mem_cons_of_mem _ hy)⟩
          obtain ⟨y, hy, e⟩ := List.mem_map.1 hm
          have h1 := hb x (by simp); have h2 := hb y (List.mem_cons_of_mem _ hy)
          have : y = x := by omega
          subst this
          exact (List.nodup_cons.1 hd).1 hy
      exact key h3 h2
    have h5 := nodup_len n h4 fun x hx => by
      obtain ⟨y, hy, rfl⟩ := List.mem_map.1 hx
      have := h2 y hy; omega
    rw [List.length_map, h1] at h5; omega
end

/-- Numbers for the places 0 .. n-1 that are as distances are: they are the distances. -/
theorem dist_of {E : List (Int × Int)} {s : Int} {n : Nat} {f : Int → Int} (hE : ∀ e ∈ E, (0 ≤ e.1 ∧ e.1 < n) ∧ 0 ≤ e.2 ∧ e.2 < n) (hs : 0 ≤ s ∧ s < n) (h0 : f s = 0) (h1 : ∀ v : Int, 0 ≤ v → v < n → -1 ≤ f v) (h2 : ∀ v : Int, 0 ≤ v → v < n → 0 ≤ f v → Walk E s (f v).toNat v) (h3 : ∀ e ∈ E, 0 ≤ f e.1 → 0 ≤ f e.2 ∧ f e.2 ≤ f e.1 + 1) :
    ∀ v : Int, 0 ≤ v → v < n → f v = dist E s v := by
  have key : ∀ {m : Nat} {v : Int}, Walk E s m v → 0 ≤ f v ∧ f v ≤ m := by
    intro m v hw
    induction hw with
    | zero => omega
    | step hw he ih => have := h3 _ he ih.1; simp only at this; omega
  intro v hv0 hvn
  have h4 := h1 v hv0 hvn
  rcases Int.lt_or_le (f v) 0 with h | h
  · rcases Int.lt_or_le (dist E s v) 0 with h' | h'
    · have := dist_ge (E := E) (s := s) (v := v); omega
    · have := key (dist_walk h'); omega
  · have h5 := dist_le (h2 v hv0 hvn h)
    have h6 := key (dist_walk h5.1)
    omega
end Go.Proofs.Ytidfmgahnmpcdaa
