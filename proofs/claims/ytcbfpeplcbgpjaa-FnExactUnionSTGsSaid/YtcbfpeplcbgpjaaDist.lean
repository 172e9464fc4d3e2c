/- Graphs: walks, distances, what is reached; no program in sight. No condition. A search in breadth finds the distances; no program in sight. No condition. bits.Mul and slices.Repeat of one number. No condition. Distances in graphs: what the program's functions hand back. No condition. -/
import Derived.Test.YtcbfpeplcbgpjaaAbsS
import Derived.Test.YtcbfpeplcbgpjaaAbsY
import Derived.Test.YtcbfpeplcbgpjaaTo
import Derived.Lib.Mul64
import Derived.Laws.Bits64b
import Derived.Laws.CopyOwn
import Derived.Laws.OwnMore
import Derived.Test.YtcbfpeplcbgpjaaIx
set_option linter.unusedSimpArgs false
set_option linter.unusedVariables false
set_option maxHeartbeats 2000000
namespace Go.Proofs.Ytcbfpeplcbgpjaa

/-- A walk of m edges from s to v. -/
inductive Walk (E : List (Int × Int)) (s : Int) : Nat → Int → Prop
  | zero : Walk E s 0 s
  | step {m : Nat} {u v : Int} : Walk E s m u → (u, v) ∈ E → Walk E s (m + 1) v
open Classical in
/-- The least number of edges that lead from s to v, -1 where none do. -/
noncomputable def dist (E : List (Int × Int)) (s v : Int) : Int := if ∃ m, Walk E s m v then (leastOf (fun m => Walk E s m v) : Int) else -1

section
variable {E : List (Int × Int)} {s u v : Int} {m n : Nat}
theorem dist_le (h : Walk E s m v) : 0 ≤ dist E s v ∧ dist E s v ≤ m := by
  have := (leastOf_spec (p := fun m => Walk E s m v) h).2 m h
  unfold dist
  rw [if_pos ⟨m, h⟩]
  omega
theorem dist_walk (h : 0 ≤ dist E s v) : Walk E s (dist E s v).toNat v := by
  unfold dist at *
  split at h
  · rename_i hm
    obtain ⟨m, hm⟩ := hm
    rw [if_pos ⟨m, hm⟩, Int.toNat_natCast]
    exact (leastOf_spec (p := fun m => Walk E s m v) hm).1
  · omega
theorem dist_ge : -1 ≤ dist E s v := by
  unfold dist; split <;> omega
theorem dist_start : dist E s s = 0 := by
  have := dist_le (Walk.zero (E := E) (s := s)); omega
theorem dist_step (h : (u, v) ∈ E) (hu : 0 ≤ dist E s u) : 0 ≤ dist E s v ∧ dist E s v ≤ dist E s u + 1 := by
  have := dist_le (Walk.step (dist_walk hu) h); omega
theorem dist_pred (h : 0 < dist E s v) : ∃ u, (u, v) ∈ E ∧ dist E s u = dist E s v - 1 := by
  have hw := dist_walk (Int.le_of_lt h)
  generalize hm : (dist E s v).toNat = m at hw
  cases hw with
  | zero => omega
  | step hw he =>
    have h1 := dist_le hw
    have h2 := dist_step he h1.1
    exact ⟨_, he, by omega⟩
theorem filter_both {α : Type} (p : α → Bool) : ∀ l : List α, l.length = (l.filter p).length + (l.filter fun x => !p x).length
  | [] => rfl
  | x :: l => by
    have := filter_both p l
    cases h : p x <;> simp [h] <;> omega
/-- Numbers below n, each once: n of them at most. -/
theorem nodup_len : ∀ (n : Nat) {l : List Nat}, l.Nodup → (∀ x ∈ l, x < n) → l.length ≤ n
  | 0, l, _, h => by
    cases l with
    | nil => simp
    | cons x l => have := h x (by simp); omega
  | n + 1, l, hd, h => by
    have h1 : (l.filter fun x => decide (x < n)).length ≤ n := nodup_len n (hd.sublist List.filter_sublist) fun x hx => by simpa using (List.mem_filter.1 hx).2
    have h2 : (l.filter fun x => !decide (x < n)).length ≤ 1 := by
      have : ∀ x ∈ l.filter (fun x => !decide (x < n)), x = n := fun x hx => by
        have := List.mem_filter.1 hx
        have h3 := h x this.1
        have h4 := this.2
        simp at h4; omega
      have hnd := hd.sublist (List.filter_sublist (p := fun x => !decide (x < n)))
      generalize l.filter (fun x => !decide (x < n)) = l' at *
      match l' with
      | [] => simp
      | [_] => simp
      | x :: y :: l'' =>
        have e1 := this x (by simp); have e2 := this y (by simp)
        subst e1; subst e2; simp at hnd
    have h3 := filter_both (fun x => decide (x < n)) l
    omega
theorem dist_all (hE : ∀ e ∈ E, 0 ≤ e.2 ∧ e.2 < n) (hs : 0 ≤ s ∧ s < n) : ∀ (k : Nat) {v : Int}, dist E s v = k → ∃ l : List Int, l.length = k + 1 ∧ (∀ x ∈ l, 0 ≤ x ∧ x < n) ∧ l.Nodup ∧ ∀ x ∈ l, dist E s x ≤ k
  | 0, v, h => by
    have hw := dist_walk (E := E) (s := s) (v := v) (by omega)
    rw [h] at hw
    cases hw
    exact ⟨[s], rfl, by simpa using hs, by simp, by simp [h]⟩
  | k + 1, v, h => by
    obtain ⟨u, he, hu⟩ := dist_pred (E := E) (s := s) (v := v) (by omega)
    obtain ⟨l, h1, h2, h3, h4⟩ := dist_all hE hs k (v := u) (by omega)
    refine ⟨v :: l, by simp [h1], ?_, ?_, ?_⟩
    · intro x hx
      rcases List.mem_cons.1 hx with rfl | hx
      · exact hE _ he
      · exact h2 x hx
    · refine List.nodup_cons.2 ⟨fun hv => ?_, h3⟩
      have := h4 v hv; omega
    · intro x hx
      rcases List.mem_cons.1 hx with rfl | hx
      · omega
      · have := h4 x hx; omega
theorem dist_lt (hE : ∀ e ∈ E, 0 ≤ e.2 ∧ e.2 < n) (hs : 0 ≤ s ∧ s < n) : dist E s v < n := by
  rcases Int.lt_or_le (dist E s v) 0 with h | h
  · omega
  · obtain ⟨l, h1, h2, h3, _⟩ := dist_all hE hs (dist E s v).toNat (v := v) (by omega)
    have h4 : (l.map Int.toNat).Nodup := by
      have key : ∀ {l : List Int}, l.Nodup → (∀ x ∈ l, 0 ≤ x ∧ x < n) → (l.map Int.toNat).Nodup := by
        intro l
        induction l with
        | nil => intro _ _; simp
        | cons x l ih =>
          intro hd hb
          rw [List.map_cons, List.nodup_cons]
          refine ⟨fun hm => ?_, ih (List.nodup_cons.1 hd).2 fun y hy => hb y (List.mem_cons_of_mem _ hy)⟩
          obtain ⟨y, hy, e⟩ := List.mem_map.1 hm
          have h1 := hb x (by simp); have h2 := hb y (List.mem_cons_of_mem _ hy)
          have : y = x := by omega
          subst this
          exact (List.nodup_cons.1 hd).1 hy
      exact key h3 h2
    have h5 := nodup_len n h4 fun x hx => by
      obtain ⟨y, hy, rfl⟩ := List.mem_map.1 hx
      have := h2 y hy; omega
    rw [List.length_map, h1] at h5; omega
end

/-- Numbers for the places 0 .. n-1 that are as distances are: they are the distances. -/
theorem dist_of {E : List (Int × Int)} {s : Int} {n : Nat} {f : Int → Int} (hE : ∀ e ∈ E, (0 ≤ e.1 ∧ e.1 < n) ∧ 0 ≤ e.2 ∧ e.2 < n) (hs : 0 ≤ s ∧ s < n) (h0 : f s = 0) (h1 : ∀ v : Int, 0 ≤ v → v < n → -1 ≤ f v) (h2 : ∀ v : Int, 0 ≤ v → v < n → 0 ≤ f v → Walk E s (f v).toNat v) (h3 : ∀ e ∈ E, 0 ≤ f e.1 → 0 ≤ f e.2 ∧ f e.2 ≤ f e.1 + 1) :
    ∀ v : Int, 0 ≤ v → v < n → f v = dist E s v := by
  have key : ∀ {m : Nat} {v : Int}, Walk E s m v → 0 ≤ f v ∧ f v ≤ m := by
    intro m v hw
    induction hw with
    | zero => omega
    | step hw he ih => have := h3 _ he ih.1; simp only at this; omega
  intro v hv0 hvn
  have h4 := h1 v hv0 hvn
  rcases Int.lt_or_le (f v) 0 with h | h
  · rcases Int.lt_or_le (dist E s v) 0 with h' | h'
    · have := dist_ge (E := E) (s := s) (v := v); omega
    · have := key (dist_walk h'); omega
  · have h5 := dist_le (h2 v hv0 hvn h)
    have h6 := key (dist_walk h5.1)
    omega
end Go.Proofs.Ytcbfpeplcbgpjaa
namespace Go.Proofs.Ytcbfpeplcbgpjaa

def atI (l : List Int) (v : Int) : Int := nth l v.toNat
theorem atI_set {l : List Int} {v x y : Int} (hv : 0 ≤ v ∧ v < l.length) (hx : 0 ≤ x) : atI (l.set v.toNat y) x = if x = v then y else atI l x := by
  unfold atI
  split
  · rename_i e; subst e; exact nth_set_self (by omega)
  · exact nth_set_ne (by omega)
theorem nth_app_left {α : Type} [Inhabited α] {l l' : List α} {i : Nat} (h : i < l.length) : nth (l ++ l') i = nth l i := by
  rw [nth_get (by simp; omega), nth_get h, List.getElem_append_left h]
theorem nth_app_last {α : Type} [Inhabited α] {l : List α} {x : α} : nth (l ++ [x]) l.length = x := by
  rw [nth_get (by simp)]; simp

structure Bfs (E : List (Int × Int)) (s : Int) (n : Nat) (out q : List Int) (k : Nat) : Prop where
  len : out.length = n
  kq : k ≤ q.length
  ge : ∀ v : Int, 0 ≤ v → v < n → -1 ≤ atI out v
  mem : ∀ v : Int, 0 ≤ v → v < n → (0 ≤ atI out v ↔ v ∈ q)
  rng : ∀ x ∈ q, 0 ≤ x ∧ x < n
  nd : q.Nodup
  walk : ∀ v : Int, 0 ≤ v → v < n → 0 ≤ atI out v → Walk E s (atI out v).toNat v
  start : atI out s = 0
  mono : ∀ i j, i ≤ j → j < q.length → atI out (nth q i) ≤ atI out (nth q j)
  near : ∀ j, j < q.length → k < q.length → atI out (nth q j) ≤ atI out (nth q k) + 1
  done : ∀ i, i < k → ∀ v, (nth q i, v) ∈ E → 0 ≤ atI out v ∧ atI out v ≤ atI out (nth q i) + 1
  bnd : ∀ v : Int, 0 ≤ v → v < n → atI out v ≤ q.length

section
variable {E : List (Int × Int)} {s : Int} {n : Nat} {out q : List Int} {k : Nat}
theorem bfs_len (h : Bfs E s n out q k) : q.length ≤ n := by
  have h1 : (q.map Int.toNat).Nodup := by
    have key : ∀ {l : List Int}, l.Nodup → (∀ x ∈ l, 0 ≤ x ∧ x < n) → (l.map Int.toNat).Nodup := by
      intro l
      induction l with
      | nil => intro _ _; simp
      | cons x l ih =>
        intro hd hb
        rw [List.map_cons, List.nodup_cons]
        refine ⟨fun hm => ?_, ih (List.nodup_cons.1 hd).2 fun y hy => hb y (List.mem_cons_of_mem _ hy)⟩
        obtain ⟨y, hy, e⟩ := List.mem_map.1 hm
        have h1 := hb x (by simp); have h2 := hb y (List.mem_cons_of_mem _ hy)
        have : y = x := by omega
        subst this
        exact (List.nodup_cons.1 hd).1 hy
    exact key h.nd h.rng
  have h2 := nodup_len n h1 fun x hx => by
    obtain ⟨y, hy, rfl⟩ := List.mem_map.1 hx
    have := h.rng y hy; omega
  simpa using h2
theorem bfs_init (hs : 0 ≤ s ∧ s < n) : Bfs E s n ((List.replicate n (-1)).set s.toNat 0) [s] 0 := by
  have hat : ∀ v : Int, 0 ≤ v → v < n → atI ((List.replicate n (-1)).set s.toNat 0) v = if v = s then 0 else -1 := by
    intro v h0 h1
    rw [atI_set (by simpa using hs) h0]
    split
    · rfl
    · unfold atI; rw [nth_get (by simp; omega)]; simp
  refine ⟨by simp, by simp, ?_, ?_, by simpa using hs, by simp, ?_, by rw [hat s hs.1 hs.2, if_pos rfl], ?_, ?_, fun i hi => by omega, ?_⟩
  rotate_right
  · intro v h0 h1; rw [hat v h0 h1]; simp only [List.length_cons, List.length_nil]; split <;> omega
  · intro v h0 h1; rw [hat v h0 h1]; split <;> omega
  · intro v h0 h1; rw [hat v h0 h1]; split <;> simp_all
  · intro v h0 h1 h2
    rw [hat v h0 h1] at h2 ⊢
    split at h2
    · rename_i e; subst e; rw [if_pos rfl]; exact .zero
    · omega
  · intro i j hij hj
    simp at hj
    have : i = 0 := by omega
    subst this; subst hj; omega
  · intro j hj _
    simp at hj
    subst hj; omega
theorem bfs_push (h : Bfs E s n out q k) (hk : k < q.length) {v : Int} (hv : 0 ≤ v ∧ v < n) (he : (nth q k, v) ∈ E) (hn : atI out v < 0) : Bfs E s n (out.set v.toNat (atI out (nth q k) + 1)) (q ++ [v]) k := by
  have hu := h.rng _ (nth_mem hk)
  have hd0 : 0 ≤ atI out (nth q k) := (h.mem _ hu.1 hu.2).2 (nth_mem hk)
  have hvq : v ∉ q := fun hm => by have := (h.mem v hv.1 hv.2).2 hm; omega
  have hat : ∀ x : Int, 0 ≤ x → atI (out.set v.toNat (atI out (nth q k) + 1)) x = if x = v then atI out (nth q k) + 1 else atI out x := fun x hx => atI_set (by rw [h.len]; exact hv) hx
  have hold : ∀ x ∈ q, atI (out.set v.toNat (atI out (nth q k) + 1)) x = atI out x := fun x hx => by
    rw [hat x (h.rng x hx).1, if_neg]; rintro rfl; exact hvq hx
  have hqi : ∀ i, i < q.length → atI (out.set v.toNat (atI out (nth q k) + 1)) (nth (q ++ [v]) i) = atI out (nth q i) := fun i hi => by
    rw [nth_app_left hi]; exact hold _ (nth_mem hi)
  have hql : atI (out.set v.toNat (atI out (nth q k) + 1)) (nth (q ++ [v]) q.length) = atI out (nth q k) + 1 := by
    rw [nth_app_last, hat v hv.1, if_pos rfl]
  refine ⟨by simp [h.len], by simp; have := h.kq; omega, ?_, ?_, ?_, ?_, ?_, ?_, ?_, ?_, ?_, ?_⟩
  rotate_right
  · intro x h0 h1
    have h2 := h.bnd _ h0 h1; have h3 := h.bnd _ hu.1 hu.2
    rw [hat x h0, List.length_append]; simp only [List.length_cons, List.length_nil]; split <;> omega
  · intro x h0 h1; rw [hat x h0]; split
    · omega
    · exact h.ge x h0 h1
  · intro x h0 h1; rw [hat x h0]; split
    · rename_i e; subst e; simp; omega
    · rename_i e; rw [h.mem x h0 h1]; simp [e]
  · intro x hx
    rcases List.mem_append.1 hx with hx | hx
    · exact h.rng x hx
    · simp at hx; subst hx; exact hv
  · refine List.nodup_append.2 ⟨h.nd, by simp, fun a ha b hb e => ?_⟩
    simp at hb; subst hb; subst e; exact hvq ha
  · intro x h0 h1 h2
    rw [hat x h0] at h2 ⊢
    split
    · rename_i e; subst e
      have hw := Walk.step (h.walk _ hu.1 hu.2 hd0) he
      rw [show (atI out (nth q k) + 1).toNat = (atI out (nth q k)).toNat + 1 by omega]; exact hw
    · rename_i e; rw [if_neg e] at h2; exact h.walk x h0 h1 h2
  · have hs := h.start
    by_cases e : s = v
    · subst e; omega
    · by_cases h0 : 0 ≤ s
      · rw [hat s h0, if_neg e]; exact hs
      · unfold atI at hs ⊢
        by_cases e2 : v.toNat = s.toNat
        · have e3 : s.toNat = 0 := by omega
          have : atI out v = nth out s.toNat := by unfold atI; rw [e2]
          omega
        · rw [nth_set_ne e2]; exact hs
  · intro i j hij hj
    simp only [List.length_append, List.length_cons, List.length_nil] at hj
    by_cases hjq : j < q.length
    · rw [hqi i (by omega), hqi j hjq]; exact h.mono i j hij hjq
    · have : j = q.length := by omega
      subst this
      rw [hql]
      by_cases hiq : i < q.length
      · rw [hqi i hiq]; exact h.near i hiq hk
      · have : i = q.length := by omega
        subst this; rw [hql]; omega
  · intro j hj _
    simp only [List.length_append, List.length_cons, List.length_nil] at hj
    rw [hqi k hk]
    by_cases hjq : j < q.length
    · rw [hqi j hjq]; exact h.near j hjq hk
    · have : j = q.length := by omega
      subst this; rw [hql]; omega
  · intro i hi x hx
    have hiq : i < q.length := by omega
    rw [hqi i hiq]
    rw [nth_app_left hiq] at hx
    have h1 := h.done i hi x hx
    by_cases h0 : 0 ≤ x
    · rw [hat x h0]
      split
      · rename_i e; subst e; omega
      · exact h1
    · unfold atI at h1 ⊢
      by_cases e2 : v.toNat = x.toNat
      · have : atI out v = nth out x.toNat := by unfold atI; rw [e2]
        omega
      · rw [nth_set_ne e2]; exact h1
theorem bfs_next (h : Bfs E s n out q k) (hk : k < q.length) (hd : ∀ v, (nth q k, v) ∈ E → 0 ≤ atI out v ∧ atI out v ≤ atI out (nth q k) + 1) : Bfs E s n out q (k + 1) := by
  refine ⟨h.len, by omega, h.ge, h.mem, h.rng, h.nd, h.walk, h.start, h.mono, fun j hj hk' => ?_, fun i hi v hv => ?_, h.bnd⟩
  · have := h.near j hj hk; have := h.mono k (k + 1) (by omega) hk'; omega
  · by_cases e : i = k
    · subst e; exact hd v hv
    · exact h.done i (by omega) v hv
theorem bfs_end (h : Bfs E s n out q k) (hk : ¬ k < q.length) (hE : ∀ e ∈ E, (0 ≤ e.1 ∧ e.1 < n) ∧ 0 ≤ e.2 ∧ e.2 < n) (hs : 0 ≤ s ∧ s < n) : ∀ v : Int, 0 ≤ v → v < n → atI out v = dist E s v := by
  refine dist_of hE hs h.start h.ge h.walk fun e he h0 => ?_
  have h1 := hE e he
  obtain ⟨i, hi, e1⟩ := List.getElem_of_mem ((h.mem e.1 h1.1.1 h1.1.2).1 h0)
  have h2 := h.done i (by have := h.kq; omega) e.2
  rw [nth_get hi, e1] at h2
  exact h2 he
end
/-- The distances of all places below n. -/
noncomputable def distL (n : Nat) (E : List (Int × Int)) (s : Int) : List Int := (List.range n).map fun k : Nat => dist E s (k : Int)
theorem distL_len (n : Nat) (E : List (Int × Int)) (s : Int) : (distL n E s).length = n := by simp [distL]
theorem distL_nth {n : Nat} {E : List (Int × Int)} {s : Int} {k : Nat} (h : k < n) : nth (distL n E s) k = dist E s k := by
  rw [nth_get (by rw [distL_len]; exact h)]; simp [distL]
theorem distL_of {n : Nat} {E : List (Int × Int)} {s : Int} {l : List Int} (hl : l.length = n) (h : ∀ v : Int, 0 ≤ v → v < n → atI l v = dist E s v) : l = distL n E s := by
  apply List.ext_getElem
  · rw [hl, distL_len]
  · intro i h1 h2
    have := h i (by omega) (by omega)
    unfold atI at this
    rw [Int.toNat_natCast, nth_get h1] at this
    rw [this, ← distL_nth (n := n) (by omega), nth_get h2]

/-! ### What follows a place -/
def succs (E : List (Int × Int)) (u : Int) : List Int := (E.filter fun e => decide (e.1 = u)).map Prod.snd
theorem mem_succs {E : List (Int × Int)} {u v : Int} : v ∈ succs E u ↔ (u, v) ∈ E := by
  unfold succs
  rw [List.mem_map]
  constructor
  · rintro ⟨⟨a, b⟩, h1, rfl⟩
    obtain ⟨h2, h3⟩ := List.mem_filter.1 h1
    have := of_decide_eq_true h3
    simp only at this; subst this; exact h2
  · intro h; exact ⟨(u, v), List.mem_filter.2 ⟨h, by simp⟩, rfl⟩
theorem succs_snoc (E : List (Int × Int)) (e : Int × Int) (u : Int) : succs (E ++ [e]) u = if e.1 = u then succs E u ++ [e.2] else succs E u := by
  unfold succs
  rw [List.filter_append, List.map_append]
  split
  · rename_i h; simp [h]
  · rename_i h; simp [h]
theorem succs_len (E : List (Int × Int)) (u : Int) : (succs E u).length ≤ E.length := by
  unfold succs; rw [List.length_map]; exact List.length_filter_le _ _
/-- For each place below n what follows it, as rows. -/
def nextRows (n : Nat) (E : List (Int × Int)) : List (List (List D)) := (List.range n).map fun u : Nat => ints (succs E u)
theorem nextRows_len (n : Nat) (E : List (Int × Int)) : (nextRows n E).length = n := by simp [nextRows]
theorem nextRows_nth {n : Nat} {E : List (Int × Int)} {u : Nat} (h : u < n) : nth (nextRows n E) u = ints (succs E u) := by
  rw [nth_get (by rw [nextRows_len]; exact h)]; simp [nextRows]
theorem nextRows_nil (n : Nat) : nextRows n [] = List.replicate n [] := by
  unfold nextRows
  apply List.ext_getElem
  · simp
  · intro i h1 h2; simp [succs, ints]
theorem nextRows_snoc {n : Nat} {E : List (Int × Int)} {e : Int × Int} {u : Nat} (hu : (u : Int) = e.1) (h : u < n) : nextRows n (E ++ [e]) = (nextRows n E).set u (nth (nextRows n E) u ++ [[.lit (.int .i64 e.2)]]) := by
  apply List.ext_getElem
  · simp [nextRows]
  · intro i h1 h2
    rw [List.getElem_set]
    simp only [nextRows, List.length_map, List.length_range] at h1
    split
    · rename_i hi; subst hi
      rw [nextRows_nth h]
      simp [nextRows, succs_snoc, hu, ints]
    · rename_i hi
      simp only [nextRows, List.getElem_map, List.getElem_range]
      rw [succs_snoc, if_neg (by omega)]
end Go.Proofs.Ytcbfpeplcbgpjaa
namespace Go.Proofs.Ytcbfpeplcbgpjaa
open Go.ChangeShapes Go.WideShapes Go.ChangeAt Go.RowKit Go.Lib

namespace Mul64
theorem maskN (a : Nat) (ha : a < 18446744073709551616) : bits .and .u64 (a : Int) 4294967295 = ((a % 4294967296 : Nat) : Int) := by
  have h := bits_and_u64_nat a 4294967295 ha (by omega)
  have e : a &&& 4294967295 = a % 4294967296 := Nat.and_two_pow_sub_one_eq_mod a 32
  rw [e] at h
  exact h
theorem divN (a : Nat) : (a : Int) / 4294967296 = ((a / 4294967296 : Nat) : Int) := by omega
theorem mulN (a b : Nat) : (a : Int) * (b : Int) = ((a * b : Nat) : Int) := (Int.natCast_mul a b).symm
theorem addN (a b : Nat) : (a : Int) + (b : Int) = ((a + b : Nat) : Int) := (Int.natCast_add a b).symm
theorem wrapN (a : Nat) (ha : a < 18446744073709551616) : IntKind.u64.wrap (a : Int) = (a : Int) := by rw [IntKind.wrap_u64]; omega
theorem wrapM (a : Nat) : IntKind.u64.wrap (a : Int) = ((a % 18446744073709551616 : Nat) : Int) := by rw [IntKind.wrap_u64]; omega
end Mul64

set_option maxHeartbeats 1000000 in
theorem Mul64_c (x y : Nat) (hx : x < 18446744073709551616) (hy : y < 18446744073709551616) (w : World) :
    Calls Try.prog 219 #[.int .u64 x, .int .u64 y] w fun e w' => e = .returned (.tuple #[.int .u64 ((x * y / 18446744073709551616 : Nat) : Int), .int .u64 ((x * y % 18446744073709551616 : Nat) : Int)]) ∧ w' = w := by
  obtain ⟨bd, bt, bw, hhi⟩ := Lib.mul64_hi x y hx hy
  have ba := Lib.half_mul_le (a := x / 4294967296) (b := y / 4294967296) (by omega) (by omega)
  have bb := Lib.half_mul_le (a := x / 4294967296) (b := y % 4294967296) (by omega) (by omega)
  have bc := Lib.half_mul_le (a := x % 4294967296) (b := y / 4294967296) (by omega) (by omega)
  have ba' : x / 4294967296 * (y / 4294967296) < 18446744073709551616 := by omega
  have bb' : x / 4294967296 * (y % 4294967296) < 18446744073709551616 := by omega
  have bc' : x % 4294967296 * (y / 4294967296) < 18446744073709551616 := by omega
  have bh1 : x / 4294967296 * (y / 4294967296) + (x / 4294967296 * (y % 4294967296) + x % 4294967296 * (y % 4294967296) / 4294967296) / 4294967296 < 18446744073709551616 := by omega
  have bh : x / 4294967296 * (y / 4294967296) + (x / 4294967296 * (y % 4294967296) + x % 4294967296 * (y % 4294967296) / 4294967296) / 4294967296 + ((x / 4294967296 * (y % 4294967296) + x % 4294967296 * (y % 4294967296) / 4294967296) % 4294967296 + x % 4294967296 * (y / 4294967296)) / 4294967296 < 18446744073709551616 := by omega
  go_enter Try.func219, Try.ntmps219
  go_wp2
  simp only [Mul64.maskN x hx, Mul64.maskN y hy, Mul64.divN, Mul64.mulN, Mul64.addN, Mul64.wrapN _ bd, Mul64.wrapN _ bb', Mul64.wrapN _ bt, Mul64.maskN _ bt, Mul64.wrapN _ bc', Mul64.wrapN _ bw, Mul64.wrapN _ ba', Mul64.wrapN _ bh1, Mul64.wrapN _ bh, Mul64.wrapM (x * y)]
  rw [hhi]
  go_ret2
  exact ⟨rfl, rfl⟩

theorem Mul_c (x y : Nat) (hx : x < 18446744073709551616) (hy : y < 18446744073709551616) (w : World) :
    Calls Try.prog 207 #[.int .u64 x, .int .u64 y] w fun e w' => e = .returned (.tuple #[.int .u64 ((x * y / 18446744073709551616 : Nat) : Int), .int .u64 ((x * y % 18446744073709551616 : Nat) : Int)]) ∧ w' = w := by
  have c64 := Mul64_c x y hx hy w
  go_enter Try.func207, Try.ntmps207
  go_wp2_with (refine c64.mono ?_; rintro e w' ⟨rfl, hw⟩; rw [hw])
  go_ret2
  exact ⟨rfl, rfl⟩

theorem info_i : (Try.prog.info? 3).map (fun i => (i.zero, i.size, i.bytes)) = some (some (.int .i64 0), 1, 8) := by kernel_rfl

/-- A part of a block of minus ones, copied behind it. -/
theorem copy_m1 {w0 w : World} {g o k n : Nat} {dc sc : Nat} {ad : Addr} {cur : Array Value} {ty : TypeId} (hx : Ext w0 w) (hg0 : w0.heap.size ≤ g) (hg : w.heap[g]? = some (.cells cur 3 (0, 0))) (hn : cur.size = n) (ho : o ≤ n) (hpre : cur.toList.take o = List.replicate o (.int .i64 (-1)))
    (hs : ∀ j, j < k → w.cell? (ad.add j) = some (.int .i64 (-1))) :
    ∃ w' cur', (Builtin.copy_ #[78, 78] ty #[.slice (some ⟨g, o, none⟩) (n - o) dc, .slice (some ad) k sc]).run Try.prog w = .ok (.int .i64 ((min k (n - o) : Nat) : Int)) w' ∧ w'.heap[g]? = some (.cells cur' 3 (0, 0)) ∧ cur'.size = n ∧ cur'.toList.take (o + min k (n - o)) = List.replicate (o + min k (n - o)) (.int .i64 (-1)) ∧ Ext w0 w' := by
  have hr := run_copy_row Try.prog w 78 78 ty 3 g o (n - o) dc ad k sc cur 3 (List.replicate (min k (n - o)) (.int .i64 (-1))) Try.underlying78 (by kernel_rfl) hg (by simp) (fun j v hj => by
    rw [List.getElem?_replicate] at hj
    split at hj
    · simp only [Option.some.injEq] at hj; subst hj; exact hs j (by omega)
    · simp at hj) (by simp; omega) (fun v hv => by rw [List.eq_of_mem_replicate hv]; rfl)
  simp only [List.length_replicate] at hr
  refine ⟨_, _, hr, setRow_heap w g cur _ 3 _ hg, ?_, ?_, ?_⟩
  · simp; omega
  · have h1 : (cur.toList.take o ++ List.replicate (min k (n - o)) (Value.int .i64 (-1))).length = o + min k (n - o) := by simp; omega
    simp only [List.toList_toArray]
    rw [List.take_left' h1, hpre, List.replicate_append_replicate]
  · exact Below.trans hx (below_setRow (Below.refl _ _) hg0 _)

theorem copy_first {w w1 : World} {b o c n : Nat} {xs : List Value} (hown : w1.ownsRow w.heap.size 3 1 (.slice (some ⟨w.heap.size, 0, none⟩) n n) n xs) (hgrow : w.grownBy w1 none) (hc : w.cell? ⟨b, o, none⟩ = some (.int .i64 (-1))) :
    ∃ w2, (Builtin.copy_ #[78, 78] 3 #[.slice (some ⟨w.heap.size, 0, none⟩) n n, .slice (some ⟨b, o, none⟩) 1 c]).run Try.prog w1 = .ok (.int .i64 ((min 1 n : Nat) : Int)) w2 ∧ ∃ cur, w2.heap[w.heap.size]? = some (.cells cur 3 (0, 0)) ∧ cur.size = n ∧ cur.toList.take (min 1 n) = List.replicate (min 1 n) (.int .i64 (-1)) ∧ Ext w w2 := by
  have hb1 : Ext w w1 := (Ext.refl _).grown hgrow
  obtain ⟨hl, ⟨h, _⟩ | ⟨g, cap, cur, hv, hg, hh, c1, c2, c3, c4⟩⟩ := hown
  · cases h
  simp only [Value.slice.injEq, Option.some.injEq, Addr.mk.injEq, and_true, true_and] at hv
  obtain ⟨rfl, rfl⟩ := hv
  have hc1 : w1.cell? ⟨b, o, none⟩ = some (.int .i64 (-1)) := by rw [hb1.cell (lt_of_cell hc)]; exact hc
  obtain ⟨w2, cur2, h1, h2, h3, h4, h5⟩ := copy_m1 (ty := 3) (dc := n) (sc := c) (o := 0) (k := 1) (n := n) (ad := ⟨b, o, none⟩) hb1 (Nat.le_refl _) hh (by omega) (Nat.zero_le _) rfl (fun j hj => by
    have hj0 : j = 0 := by omega
    subst hj0
    simpa [Addr.add] using hc1)
  simp only [Nat.sub_zero, Nat.zero_add] at h1 h4
  exact ⟨w2, h1, cur2, h2, h3, h4, h5⟩

theorem copy_next {w wr : World} {n k : Nat} {cur : Array Value} (hh : wr.heap[w.heap.size]? = some (.cells cur 3 (0, 0))) (hz : cur.size = n) (hk : k < n) (ht : cur.toList.take k = List.replicate k (.int .i64 (-1))) (hx : Ext w wr) :
    ∃ m w2, (Builtin.copy_ #[78, 78] 3 #[.slice (some ⟨w.heap.size, k, none⟩) (n - k) (n - k), .slice (some ⟨w.heap.size, 0, none⟩) k n]).run Try.prog wr = .ok (.int .i64 (m : Nat)) w2 ∧ (k ≤ m ∨ k + m = n) ∧ k + m ≤ n ∧ ∃ cur, w2.heap[w.heap.size]? = some (.cells cur 3 (0, 0)) ∧ cur.size = n ∧ cur.toList.take (k + m) = List.replicate (k + m) (.int .i64 (-1)) ∧ Ext w w2 := by
  obtain ⟨w2, cur2, h1, h2, h3, h4, h5⟩ := copy_m1 (ty := 3) (dc := n - k) (sc := n) (o := k) (k := k) (n := n) (ad := ⟨w.heap.size, 0, none⟩) hx (Nat.le_refl _) hh hz (by omega) ht (fun j hj => by
    have h7 : (cur.toList.take k)[j]? = some (.int .i64 (-1)) := by rw [ht, List.getElem?_replicate, if_pos hj]
    rw [List.getElem?_take, if_pos hj, Array.getElem?_toList] at h7
    have e : (⟨w.heap.size, 0, none⟩ : Addr).add j = ⟨w.heap.size, j, none⟩ := by simp [Addr.add]; try omega
    rw [e]
    simp [World.cell?, hh, h7])
  exact ⟨_, w2, h1, by omega, by omega, cur2, h2, h3, h4, h5⟩

set_option maxRecDepth 30000 in
theorem Repeat_c (w : World) (b o c n : Nat) (hc : w.cell? ⟨b, o, none⟩ = some (.int .i64 (-1))) (hn : n ≤ 300) :
    Calls Try.prog 199 #[.slice (some ⟨b, o, none⟩) 1 c, .int .i64 n] w fun e w' => ∃ v, e = .returned v ∧ w'.ownsRow w.heap.size 3 1 v n (List.replicate n (.int .i64 (-1))) ∧ Ext w w' := by
  have hcm := Mul_c 1 n (by omega) (by omega) w
  rw [show 1 * n / 18446744073709551616 = 0 by omega, show 1 * n % 18446744073709551616 = n by omega] at hcm
  obtain ⟨i0, hi, hz0, hz1, hz2⟩ := info_parts info_i
  have hs1 : i0.bytes * n ≤ 281474976710656 := by rw [hz2]; omega
  have hs2 : n ≤ maxLen := by unfold maxLen; omega
  have HA := Lib.hid hi
  have HB := Lib.hid hz0
  have HC := Lib.hid hz1
  have HCC := Lib.hid hc
  have hb1 : decide ((9223372036854775807 : Int) < (n : Int)) = false := by simp; omega
  clear hi hz0 hz1 hz2 hc
  go_enter Try.func199, Try.ntmps199
  go_wp2_with fail
  refine hcm.mono ?_
  rintro e w' ⟨rfl, rfl⟩
  go_wp2_with (at_make; refine wpList_make_full _ rfl _ _ 78 rfl w'.heap.size 3 i0 (.int .i64 0) 1 Try.underlying78 HA.out HB.out HC.out _ _ _ _ n rfl rfl rfl rfl hs1 hs2 (Nat.le_refl _) ?_; intro w1 hown hgrow; obtain ⟨w2, hrun2, H⟩ := copy_first (n := n) (c := c) hown hgrow HCC.out; have HX := Lib.hid H; clear hown hgrow H)
  have HN : Hid (n ≤ 300) := Lib.hid hn
  clear hs1 hs2 HA HB HC HCC hcm
  go_loopw [8] (fun i wr => ∃ k : Nat, k ≤ n ∧ (n = 0 ∨ 1 ≤ k) ∧ i = .int .i64 k ∧ ∃ cur, wr.heap[w'.heap.size]? = some (.cells cur 3 (0, 0)) ∧ cur.size = n ∧ cur.toList.take k = List.replicate k (.int .i64 (-1)) ∧ Ext w' wr) (fun i _ => n - (intOf i).toNat)
  case atStart =>
    obtain ⟨cur, h1, h2, h3, h4⟩ := HX.out
    exact ⟨min 1 n, by omega, by omega, rfl, cur, h1, h2, h3, h4⟩
  case round =>
    clear HX hrun2
    obtain ⟨k, hk, hk1, rfl, cur, h1, h2, h3, h4⟩ := hrel
    by_cases hlt : k < n
    · obtain ⟨m, w3, hrun3, hm1, hm2, H⟩ := copy_next (wr := wr.drew) h1 h2 hlt h3 h4.drew
      have HX := Lib.hid H
      clear H h1 h2 h3 h4
      have hsum : IntKind.i64.wrap ((k : Int) + (m : Int)) = ((k + m : Nat) : Int) := by
        rw [IntKind.wrap_i64]; omega
      go_wp2
      go_region_with (fail)
      simp only [Act.put, List.getElem_toArray, List.getElem_cons_succ, List.getElem_cons_zero, hsum, List.setIfInBounds_toArray, List.set]
      go_wp2
      go_roundw
      case rel =>
        obtain ⟨cur, h1, h2, h3, h4⟩ := HX.out
        exact ⟨k + m, by omega, by omega, rfl, cur, h1, h2, h3, h4⟩
      case measure => simp [intOf]; omega
    · obtain rfl : k = n := by omega
      have HH := Lib.hid h1
      have HZ := Lib.hid h2
      have HT := Lib.hid h3
      clear h1 h2 h3
      go_wp2
      go_ret
      refine ⟨_, rfl, ⟨by simp, Or.inr ⟨_, _, _, rfl, Nat.le_refl _, HH.out, Nat.le_refl _, by unfold maxLen; have := HN.out; omega, by have := HZ.out; omega, ?_⟩⟩, h4⟩
      have := HT.out; simpa using this
end Go.Proofs.Ytcbfpeplcbgpjaa
namespace Go.Proofs.Ytcbfpeplcbgpjaa
open Go.ChangeShapes Go.WideShapes Go.ChangeAt Go.RowKit

/-- A new array of scalars, from a contract that was proved elsewhere. -/
theorem Fn.of_own {P : Program} {fid : FuncId} {ds : List D} {T : TypeId} {m : Nat} {xs : List (List D)} (hp : ∀ args w, (callFunc fid args).run P w = .ok (.enter fid args) w) (hrow : ∀ r ∈ xs, r.length = m) {us : List Value} (hl : ∀ w : World, VRs w xs.flatten us [])
    (h : ∀ (w : World) (vs : List Value), VXs [] w (Lt w) ds vs → Calls P fid vs.toArray w fun e w' => ∃ v, e = .returned v ∧ w'.ownsRow w.heap.size T m v xs.length us ∧ Ext w w') : Fn P fid ds (.own 0) [.arr T m xs true] := by
  refine ⟨hp, rfl, fun A w vs hA hvs => (h w vs (VXs.mono (fun k hk => ⟨rfl, hA k hk⟩) hvs fun _ _ _ h => h)).mono ?_⟩
  rintro e w' ⟨v, rfl, ho, hx⟩
  have hsl : ∃ a n c, v = .slice a n c := by
    obtain ⟨_, ⟨h, _⟩ | ⟨g, cap, cur, h, _⟩⟩ := ho
    · exact ⟨_, _, _, h⟩
    · exact ⟨_, _, _, h⟩
  have hown : owned [⟨v, v.ownBlock, []⟩] = v.ownBlock.toList := by simp [owned]
  refine ⟨v, [⟨v, v.ownBlock, []⟩], rfl, hx, rfl, ?_, ?_, ?_, .own (e := ⟨v, v.ownBlock, []⟩) rfl hsl⟩
  · rw [hown]; cases v.ownBlock <;> simp
  · intro k hk
    rw [hown] at hk
    exact ho.lt k (by simpa using hk)
  · intro i b e hb he
    cases i with
    | succ i => simp at hb
    | zero =>
      simp at hb he
      subst hb; subst he
      exact ⟨us, [], ho, hrow, hl w', rfl, rfl, by simp⟩

theorem vrs_ints (w : World) : ∀ l : List Int, (∀ x ∈ l, -9223372036854775808 ≤ x ∧ x ≤ 9223372036854775807) → VRs w (ints l).flatten (l.map (Value.int .i64)) []
  | [], _ => .nil
  | x :: l, h => VRs.cons (bs := []) (.lit (litOk_i64.2 (h x (by simp)))) (vrs_ints w l fun y hy => h y (List.mem_cons_of_mem _ hy))
theorem ints_row (l : List Int) : ∀ r ∈ ints l, r.length = 1 := by
  intro r hr; obtain ⟨x, _, rfl⟩ := List.mem_map.1 hr; rfl

theorem Repeat_f (n : Nat) (hn : n ≤ 300) : Fn Try.prog 199 [.sh 1 (ints [-1]), .lit (.int .i64 n)] (.own 0) [.arr 3 1 (ints (List.replicate n (-1))) true] := by
  refine Fn.of_own (us := (List.replicate n (-1)).map (Value.int .i64)) (plain_of Try.func199 (by kernel_rfl) (by kernel_rfl)) (ints_row _) (fun w => vrs_ints w _ (fun x hx => by rw [List.eq_of_mem_replicate hx]; omega)) fun w vs h => ?_
  obtain ⟨u, us', rfl, h1, h2⟩ := vxs_cons h
  obtain ⟨u2, rfl, h3⟩ := vxs_one h2
  obtain ⟨rfl, _⟩ := h3.lit_inv
  obtain ⟨bs, h4, _⟩ := h1.sh_inv
  have hex : ∃ b o cap, u = .slice (some ⟨b, o, none⟩) 1 cap ∧ w.cell? ⟨b, o, none⟩ = some (.int .i64 (-1)) := by
    cases h4 with
    | sh q1 q2 q3 q4 q5 q6 =>
      cases q5 with
      | cons q7 q8 =>
        cases q7 with
        | lit _ =>
          cases q8
          have hc := q6 0 (by simp)
          simp only [Nat.add_zero, List.getElem?_cons_zero] at hc
          exact ⟨_, _, _, rfl, hc⟩
  obtain ⟨b, o, cap, rfl, hc⟩ := hex
  have := Repeat_c w b o cap n hc hn
  rw [len_ints, List.length_replicate, List.map_replicate]
  exact this

def dSt (e : Int × Int) : List D := [.lit (.int .i64 e.1), .lit (.int .i64 e.2)]
theorem len_dSt (l : List (Int × Int)) : (l.map dSt).length = l.length := by simp
def arcE (l : List ArcD) : List (Int × Int) := l.map fun a => (a.src, a.dst)
theorem arcE_len (l : List ArcD) : (arcE l).length = l.length := by simp [arcE]
theorem arcE_nth {l : List ArcD} {k : Nat} (h : k < l.length) : nth (arcE l) k = ((nth l k).src, (nth l k).dst) := by
  rw [nth_get (by rw [arcE_len]; exact h), nth_get h]; simp [arcE]

theorem arcSteps_f (l : List ArcD) (hl : l.length ≤ 4000) : Fn Try.prog 179 [.sh 4 (l.map dArcD)] (.own 0) [.arr 171 2 ((arcE l).map dSt) true] := by
  refine Fn_of Try.func179 rfl (by kernel_rfl) rfl rfl ?_
  intro w0 A hin
  have hz := len_dArcD l
  repeat' (first | refine goZ ?_ | ((first | refine R_cond rfl (fun hq => ?_) fun hq => ?_ | refine R_guardT rfl rfl rfl (fun hq => ?_) fun hq => ?_ | refine R_guardF rfl rfl rfl (fun hq => ?_) fun hq => ?_ | refine D_guardT rfl rfl rfl (fun hq => ?_) fun hq => ?_ | refine D_guardF rfl rfl rfl (fun hq => ?_) fun hq => ?_) <;> (try rw [hq]) <;> first | have hp := of_decide_eq_true hq | have hp := of_decide_eq_false hq | have hp := of_decide_eq_false (not_t hq) | have hp := of_decide_eq_true (not_f hq) | have hp := hq))
  refine W_loop (fun k : Nat => ⟨_, [(3, .own 0), (7, .sh 4 (l.map dArcD)), (8, .lit (.int .i64 l.length)), (9, .lit (.int .i64 k))], [.arr 171 2 ((arcE (l.take k)).map dSt) true]⟩) (fun k => k ≤ l.length) (fun k => l.length - k) 0 (Nat.zero_le _) (weakZ []) ?_
  intro k hk
  have hk2 := arcE_len (l.take k)
  have hk3 : (l.take k).length ≤ k := by simp; omega
  repeat' (first | refine goZ ?_ | ((first | refine R_cond rfl (fun hq => ?_) fun hq => ?_ | refine R_guardT rfl rfl rfl (fun hq => ?_) fun hq => ?_ | refine R_guardF rfl rfl rfl (fun hq => ?_) fun hq => ?_ | refine D_guardT rfl rfl rfl (fun hq => ?_) fun hq => ?_ | refine D_guardF rfl rfl rfl (fun hq => ?_) fun hq => ?_) <;> (try rw [hq]) <;> first | have hp := of_decide_eq_true hq | have hp := of_decide_eq_false hq | have hp := of_decide_eq_false (not_t hq) | have hp := of_decide_eq_true (not_f hq) | have hp := hq))
  · refine ⟨k + 1, by omega, by omega, ?_⟩
    have e : (arcE (l.take (k + 1))).map dSt = (arcE (l.take k)).map dSt ++ [[.lit (.int .i64 (nth l k).src), .lit (.int .i64 (nth l k).dst)]] := by
      rw [take_nth (show k < l.length by omega)]; simp [arcE, dSt]
    rw [e]
    exact weakZ _
  · exact ret_own rfl rfl (by rw [List.take_of_length_le (show l.length ≤ k by omega)])

set_option maxHeartbeats 4000000 in
theorem distances_f (n : Nat) (E : List (Int × Int)) (s : Int) (h1 : 1 ≤ n) (hn : n ≤ 300) (hl : E.length ≤ 4000) (hE : ∀ e ∈ E, (0 ≤ e.1 ∧ e.1 < n) ∧ 0 ≤ e.2 ∧ e.2 < n) (hs : 0 ≤ s ∧ s < n) :
    Fn Try.prog 178 [.lit (.int .i64 n), .sh 2 (E.map dSt), .lit (.int .i64 s)] (.own 0) [.arr 3 1 (ints (distL n E s)) true] := by
  refine Fn_old Try.func178 rfl (by kernel_rfl) rfl rfl ?_
  intro w0 A hin
  have hz := len_dSt E
  have hR := Repeat_f n hn
  repeat' (first | refine goZ ?_ | refine R_callZ rfl (hR) rfl rfl rfl ?_ | refine R_callvZ rfl (hR) rfl rfl rfl rfl ?_ | refine D_callZ rfl (hR) rfl rfl rfl ?_ | ((first | refine R_cond rfl (fun hq => ?_) fun hq => ?_ | refine R_guardT rfl rfl rfl (fun hq => ?_) fun hq => ?_ | refine R_guardF rfl rfl rfl (fun hq => ?_) fun hq => ?_ | refine D_guardT rfl rfl rfl (fun hq => ?_) fun hq => ?_ | refine D_guardF rfl rfl rfl (fun hq => ?_) fun hq => ?_) <;> (try rw [hq]) <;> first | have hp := of_decide_eq_true hq | have hp := of_decide_eq_false hq | have hp := of_decide_eq_false (not_t hq) | have hp := of_decide_eq_true (not_f hq) | have hp := hq))
  refine W_midS ⟨Try.f178.ntmps, [(0, .lit (.int .i64 n)), (1, .old w0 A (.sh 2 (E.map dSt))), (2, .lit (.int .i64 s)), (7, .own 0), (8, .own 1)], [.arr 3 1 (ints (List.replicate n (-1))) true, .cust (MatR 78 3 1 (List.replicate n nilV) (List.replicate n nilV) (List.replicate n []))]⟩ ?_ ?_
  · repeat' (first | refine goZ ?_ | refine goH ?_ | refine H_two (by exact rfl) (by exact rfl) (by exact rfl) (by exact rfl) (by exact rfl) ?_ ?_ | refine H_three (by exact rfl) (by exact rfl) (by exact rfl) (by exact rfl) (by exact rfl) (by exact rfl) (by exact rfl) ?_ ?_ ?_  | refine R_callZ rfl (hR) rfl rfl rfl ?_ | refine R_callvZ rfl (hR) rfl rfl rfl rfl ?_ | refine R_matMake tabOk rfl rfl rfl rfl rfl rfl rfl rfl (by omega) ?_ | refine D_callZ rfl (hR) rfl rfl rfl ?_ | ((first | refine R_cond rfl (fun hq => ?_) fun hq => ?_ | refine R_guardT rfl rfl rfl (fun hq => ?_) fun hq => ?_ | refine R_guardF rfl rfl rfl (fun hq => ?_) fun hq => ?_ | refine D_guardT rfl rfl rfl (fun hq => ?_) fun hq => ?_ | refine D_guardF rfl rfl rfl (fun hq => ?_) fun hq => ?_) <;> (try rw [hq]) <;> first | have hp := of_decide_eq_true hq | have hp := of_decide_eq_false hq | have hp := of_decide_eq_false (not_t hq) | have hp := of_decide_eq_true (not_f hq) | have hp := hq) | refine W_held mixed [] ?_)
    all_goals first
      | (refine midQ.n (Weak_ren [some 1, some 2] rfl rfl ?_ ?_) <;> (repeat' (first | exact trivial | rfl | refine And.intro ?_ ?_ | (simp [St.get, look, ints, strs, bools]; done))) <;> done)
      | (refine midQ.n (Weak_ren [some 2, some 1] rfl rfl ?_ ?_) <;> (repeat' (first | exact trivial | rfl | refine And.intro ?_ ?_ | (simp [St.get, look, ints, strs, bools]; done))) <;> done)
      | (refine midQ.n (Weak_ren [some 2, some 0] rfl rfl ?_ ?_) <;> (repeat' (first | exact trivial | rfl | refine And.intro ?_ ?_ | (simp [St.get, look, ints, strs, bools]; done))) <;> done)
  have hrl : (ints (List.replicate n (-1 : Int))).length = n := by rw [len_ints, List.length_replicate]
  have hrl2 : (List.replicate n (-1 : Int)).length = n := List.length_replicate
  repeat' (first | refine goZ ?_ | ((first | refine R_cond rfl (fun hq => ?_) fun hq => ?_ | refine R_guardT rfl rfl rfl (fun hq => ?_) fun hq => ?_ | refine R_guardF rfl rfl rfl (fun hq => ?_) fun hq => ?_ | refine D_guardT rfl rfl rfl (fun hq => ?_) fun hq => ?_ | refine D_guardF rfl rfl rfl (fun hq => ?_) fun hq => ?_) <;> (try rw [hq]) <;> first | have hp := of_decide_eq_true hq | have hp := of_decide_eq_false hq | have hp := of_decide_eq_false (not_t hq) | have hp := of_decide_eq_true (not_f hq) | have hp := hq))
  refine W_loop (fun x : Nat × List Value => ⟨_, [(2, .lit (.int .i64 s)), (7, .own 0), (8, .own 1), (20, .old w0 A (.sh 2 (E.map dSt))), (21, .lit (.int .i64 E.length)), (22, .lit (.int .i64 x.1))], [.arr 3 1 (ints (List.replicate n (-1))) true, .cust (MatR 78 3 1 x.2 x.2 (nextRows n (E.take x.1)))]⟩) (fun x => x.1 ≤ E.length ∧ x.2.length = n) (fun x => E.length - x.1) (0, List.replicate n nilV) ⟨Nat.zero_le _, by simp⟩ (by rw [List.take_zero, nextRows_nil]; exact weakZ []) ?_
  rintro ⟨k, vs⟩ ⟨hk, hvs⟩
  dsimp only at hk hvs ⊢
  have hrow : ∀ j : Nat, j < n → (nth (nextRows n (E.take k)) j).length ≤ 4000 := fun j hj => by
    rw [nextRows_nth hj, len_ints]
    have := succs_len (E.take k) (j : Int); simp at this; omega
  have hEk : (k : Int) < (E.length : Int) → (0 ≤ (nth E k).1 ∧ (nth E k).1 < n) ∧ 0 ≤ (nth E k).2 ∧ (nth E k).2 < n := fun h => hE _ (nth_mem (by omega))
  have hap : (k : Int) < (E.length : Int) → (nth E k).1.toNat < vs.length ∧ (nth (nextRows n (E.take k)) (nth E k).1.toNat).length ≤ 4000 := fun h => by have := hEk h; exact ⟨by omega, hrow _ (by omega)⟩
  repeat' (first | refine goZ ?_ | refine goH ?_ | refine H_two (by exact rfl) (by exact rfl) (by exact rfl) (by exact rfl) (by exact rfl) ?_ ?_ | refine H_three (by exact rfl) (by exact rfl) (by exact rfl) (by exact rfl) (by exact rfl) (by exact rfl) (by exact rfl) ?_ ?_ ?_  | refine R_indexOld tabOk rfl rfl rfl rfl rfl (rowAt_nat (by omega)) ?_ | refine R_matAddr tabOk 1 rfl rfl rfl rfl rfl rfl (by omega) ?_ | refine R_matLoad tabOk 1 rfl rfl rfl rfl (by omega) ?_ | refine R_matAppend tabOk 1 (nth E k).1.toNat rfl rfl rfl rfl rfl rfl rfl rfl rfl rfl rfl rfl rfl (by intro r hr; simp at hr; subst hr; simp [isLit]) ⟨(hap hp).1, rfl⟩ (by have := (hap hp).2; simp; omega) (fun v' hv' => ?_) | refine R_matStore tabOk 1 rfl rfl rfl rfl hv' rfl (by omega) ?_ | ((first | refine R_cond rfl (fun hq => ?_) fun hq => ?_ | refine R_guardT rfl rfl rfl (fun hq => ?_) fun hq => ?_ | refine R_guardF rfl rfl rfl (fun hq => ?_) fun hq => ?_ | refine D_guardT rfl rfl rfl (fun hq => ?_) fun hq => ?_ | refine D_guardF rfl rfl rfl (fun hq => ?_) fun hq => ?_) <;> (try rw [hq]) <;> first | have hp := of_decide_eq_true hq | have hp := of_decide_eq_false hq | have hp := of_decide_eq_false (not_t hq) | have hp := of_decide_eq_true (not_f hq) | have hp := hq) | refine W_held mixed [(10, 0, .int .i64 (nth E k).1), (10, 1, .int .i64 (nth E k).2)] ?_)
  rotate_right
  · have ek : E.take k = E := List.take_of_length_le (by omega)
    rw [ek]
    refine W_loop (fun x : List Int × List Int × Nat => ⟨_, [(7, .own 0), (8, .own 1), (11, .own 2), (12, .lit (.int .i64 x.2.2))], [.arr 3 1 (ints x.1) true, .cust (MatR 78 3 1 vs vs (nextRows n E)), .arr 3 1 (ints x.2.1) true]⟩) (fun x => Bfs E s n x.1 x.2.1 x.2.2) (fun x => n - x.2.2) ((List.replicate n (-1)).set s.toNat 0, [s], 0) (bfs_init hs) (weakZ []) ?_
    rintro ⟨out, q, k⟩ hB
    dsimp only at hB ⊢
    have hb1 := bfs_len hB; have hb2 := hB.kq; have hb3 := hB.len
    have hz2 := len_ints out; have hz3 := len_ints q
    have hqk : (k : Int) < (q.length : Int) → 0 ≤ nth q k ∧ nth q k < vs.length := fun h => by have := hB.rng _ (nth_mem (show k < q.length by omega)); omega
    have hnx : (k : Int) < ((ints q).length : Int) → nth (nextRows n E) (nth q k).toNat = ints (succs E (nth q k)) := fun h => by
      have := hqk (by omega)
      rw [nextRows_nth (by omega), Int.toNat_of_nonneg (by omega)]
    repeat' (first | refine goZ ?_ | refine R_matAddr tabOk 1 rfl rfl rfl rfl rfl rfl (by omega) ?_ | (refine R_matRead tabOk 1 rfl rfl rfl rfl (by omega) ?_; rw [hnx hp]) | ((first | refine R_cond rfl (fun hq => ?_) fun hq => ?_ | refine R_guardT rfl rfl rfl (fun hq => ?_) fun hq => ?_ | refine R_guardF rfl rfl rfl (fun hq => ?_) fun hq => ?_ | refine D_guardT rfl rfl rfl (fun hq => ?_) fun hq => ?_ | refine D_guardF rfl rfl rfl (fun hq => ?_) fun hq => ?_) <;> (try rw [hq]) <;> first | have hp := of_decide_eq_true hq | have hp := of_decide_eq_false hq | have hp := of_decide_eq_false (not_t hq) | have hp := of_decide_eq_true (not_f hq) | have hp := hq))
    · have hkq : k < q.length := by omega
      have hEu : ∀ i, i < (succs E (nth q k)).length → (nth q k, nth (succs E (nth q k)) i) ∈ E := fun i hi => mem_succs.1 (nth_mem hi)
      have hLl := succs_len E (nth q k)
      generalize hL : succs E (nth q k) = L at *
      generalize hu : nth q k = u at *
      have hz4 := len_ints L
      have hLv : ∀ i, i < L.length → 0 ≤ nth L i ∧ nth L i < n := fun i hi => (hE _ (hEu i hi)).2
      refine W_loop (fun x : List Int × List Int × Nat => ⟨_, [(7, .own 0), (8, .own 1), (11, .own 2), (12, .lit (.int .i64 k)), (57, .sh 1 (ints L)), (58, .lit (.int .i64 (ints L).length)), (59, .lit (.int .i64 x.2.2))], [.arr 3 1 (ints x.1) true, .cust (MatR 78 3 1 vs vs (nextRows n E)), .arr 3 1 (ints x.2.1) true]⟩)
        (fun x => Bfs E s n x.1 x.2.1 k ∧ k < x.2.1.length ∧ nth x.2.1 k = u ∧ x.2.2 ≤ L.length ∧ ∀ i, i < x.2.2 → 0 ≤ atI x.1 (nth L i) ∧ atI x.1 (nth L i) ≤ atI x.1 u + 1) (fun x => L.length - x.2.2) (out, q, 0) ⟨hB, hkq, hu, Nat.zero_le _, fun i hi => absurd hi (Nat.not_lt_zero _)⟩ (weakZ []) ?_
      rintro ⟨out', q', j⟩ ⟨hB', hkq', hu', hj, hdn⟩
      dsimp only at hB' hkq' hu' hj hdn ⊢
      have hc1 := bfs_len hB'; have hc3 := hB'.len
      have hz5 := len_ints out'; have hz6 := len_ints q'
      have huv : 0 ≤ u ∧ u < n := by rw [← hu']; exact hB'.rng _ (nth_mem hkq')
      have hLj : (j : Int) < ((ints L).length : Int) → 0 ≤ nth L j ∧ nth L j < n := fun h => hLv j (by omega)
      have hu0 : 0 ≤ atI out' u := (hB'.mem u huv.1 huv.2).2 (by rw [← hu']; exact nth_mem hkq')
      have hub : -1 ≤ nth out' (nth q' k).toNat ∧ nth out' (nth q' k).toNat ≤ 300 := by
        rw [hu']
        have h1 := hB'.ge u huv.1 huv.2; have h2 := hB'.bnd u huv.1 huv.2
        unfold atI at h1 h2; omega
      have huq : 0 ≤ nth q' k ∧ nth q' k < n := by rw [hu']; exact huv
      repeat' (first | refine goZ ?_ | ((first | refine R_cond rfl (fun hq => ?_) fun hq => ?_ | refine R_guardT rfl rfl rfl (fun hq => ?_) fun hq => ?_ | refine R_guardF rfl rfl rfl (fun hq => ?_) fun hq => ?_ | refine D_guardT rfl rfl rfl (fun hq => ?_) fun hq => ?_ | refine D_guardF rfl rfl rfl (fun hq => ?_) fun hq => ?_) <;> (try rw [hq]) <;> first | have hp := of_decide_eq_true hq | have hp := of_decide_eq_false hq | have hp := of_decide_eq_false (not_t hq) | have hp := of_decide_eq_true (not_f hq) | have hp := hq))
      · have hv := hLj (by omega)
        have hjl : j < L.length := by omega
        have hvE : (nth q' k, nth L j) ∈ E := by rw [hu']; exact hEu j hjl
        have hneg : atI out' (nth L j) < 0 := hp
        have hB2 := bfs_push hB' hkq' hv hvE hneg
        have huv2 : u ≠ nth L j := by rintro e; rw [← e] at hneg; omega
        have hat : ∀ x : Int, 0 ≤ x → atI (out'.set (nth L j).toNat (atI out' (nth q' k) + 1)) x = if x = nth L j then atI out' (nth q' k) + 1 else atI out' x := fun x hx => atI_set (by rw [hc3]; exact hv) hx
        refine ⟨(out'.set (nth L j).toNat (atI out' (nth q' k) + 1), q' ++ [nth L j], j + 1), ⟨hB2, by simp; omega, by dsimp only; rw [nth_app_left hkq', hu'], by dsimp only; omega, ?_⟩, by dsimp only; omega, ?_⟩
        · intro i hi
          dsimp only at hi ⊢
          have h1 := hLv i (by omega)
          rw [hat _ h1.1, hat u huv.1, if_neg huv2, hu']
          split
          · omega
          · rename_i hne
            have : i < j := by
              rcases Nat.lt_or_ge i j with h | h
              · exact h
              · have : i = j := by omega
                subst this; exact absurd rfl hne
            exact hdn i this
        · have e : ints (q' ++ [nth L j]) = ints q' ++ [[.lit (.int .i64 (nth L j))]] := by simp [ints]
          dsimp only
          rw [e]
          exact weakZ _
      · have hjl : j < L.length := by omega
        have hv := hLj (by omega)
        have h0 : 0 ≤ atI out' (nth L j) := by unfold atI; omega
        obtain ⟨i, hi, e1⟩ := List.getElem_of_mem ((hB'.mem _ hv.1 hv.2).1 h0)
        have hnr := hB'.near i hi hkq'
        rw [nth_get hi, e1, hu'] at hnr
        refine ⟨(out', q', j + 1), ⟨hB', hkq', hu', by dsimp only; omega, ?_⟩, by dsimp only; omega, weakZ []⟩
        intro i hi
        dsimp only at hi ⊢
        rcases Nat.lt_or_ge i j with h | h
        · exact hdn i h
        · have : i = j := by omega
          subst this; exact ⟨h0, hnr⟩
      · refine ⟨(out', q', k + 1), bfs_next hB' hkq' fun v hv => ?_, by dsimp only; omega, weakZ []⟩
        rw [hu'] at hv ⊢
        have hm := mem_succs.2 hv
        rw [hL] at hm
        obtain ⟨i, hi, e1⟩ := List.getElem_of_mem hm
        have := hdn i (by omega)
        rw [nth_get hi, e1] at this
        exact this
    · exact ret_own rfl rfl (by rw [distL_of hb3 (bfs_end hB (by omega) hE hs)])
  all_goals
    refine ⟨(k + 1, vs.set (nth E k).1.toNat v'), ⟨by dsimp only; omega, by simpa using hvs⟩, by dsimp only; omega, ?_⟩
    have e : nextRows n (E.take (k + 1)) = (nextRows n (E.take k)).set (nth E k).1.toNat (nth (nextRows n (E.take k)) (nth E k).1.toNat ++ [[.lit (.int .i64 (nth E k).2)]]) := by
      rw [take_nth (show k < E.length by omega)]
      have := hEk hp
      exact nextRows_snoc (by omega) (by omega)
    dsimp only
    rw [e]
    exact weakZ _
end Go.Proofs.Ytcbfpeplcbgpjaa
