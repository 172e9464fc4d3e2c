/- A search in breadth finds the distances; no program in sight. No condition. -/
import Derived.Test.YtidfmgahnmpcdaaAbsY
import Derived.Test.YtidfmgahnmpcdaaGraph
set_option linter.unusedSimpArgs false
set_option linter.unusedVariables false
namespace Go.Proofs.Ytidfmgahnmpcdaa

def atI (l : List Int) (v : Int) : Int := nth l v.toNat
theorem atI_set {l : List Int} {v x y : Int} (hv : 0 ≤ v ∧ v < l.length) (hx : 0 ≤ x) : atI (l.set v.toNat y) x = if x = v then y else atI l x := by
  unfold atI
  split
  · rename_i e; subst e; exact nth_set_self (by omega)
  · exact nth_set_ne (by omega)
theorem nth_app_left {α : Type} [Inhabited α] {l l' : List α} {i : Nat} (h : i < l.length) : nth (l ++ l') i = nth l i := by
  rw [nth_get (by simp; omega), nth_get h, List.getElem_append_left h]
theorem nth_app_last {α : Type} [Inhabited α] {l : List α} {x : α} : nth (l ++ [x]) l.length = x := by
  rw [nth_get (by simp)]; simp

structure Bfs (E : List (Int × Int)) (s : Int) (n : Nat) (out q : List Int) (k : Nat) : Prop where
  len : out.length = n
  kq : k ≤ q.length
  ge : ∀ v : Int, 0 ≤ v → v < n → -1 ≤ atI out v
  mem : ∀ v : Int, 0 ≤ v → v < n → (0 ≤ atI out v ↔ v ∈ q)
  rng : ∀ x ∈ q, 0 ≤ x ∧ x < n
  nd : q.Nodup
  walk : ∀ v : Int, 0 ≤ v → v < n → 0 ≤ atI out v → Walk E s (atI out v).toNat v
  start : atI out s = 0
  mono : ∀ i j, i ≤ j → j < q.length → atI out (nth q i) ≤ atI out (nth q j)
  near : ∀ j, j < q.length → k < q.length → atI out (nth q j) ≤ atI out (nth q k) + 1
  done : ∀ i, i < k → ∀ v, (nth q i, v) ∈ E → 0 ≤ atI out v ∧ atI out v ≤ atI out (nth q i) + 1
  bnd : ∀ v : Int, 0 ≤ v → v < n → atI out v ≤ q.length

section
variable {E : List (Int × Int)} {s : Int} {n : Nat} {out q : List Int} {k : Nat}
theorem bfs_len (h : Bfs E s n out q k) : q.length ≤ n := by
  have h1 : (q.map Int.toNat).Nodup := by
    have key : ∀ {l : List Int}, l.Nodup → (∀ x ∈ l, 0 ≤ x ∧ x < n) → (l.map Int.toNat).Nodup := by
      intro l
      induction l with
      | nil => intro _ _; simp
      | cons x l ih =>
        intro hd hb
        rw [List.map_cons, List.nodup_cons]
        refine ⟨fun hm => ?_, ih (List.nodup_cons.1 hd).2 fun y hy => hb y (List.mem_cons_of_mem _ hy)⟩
        obtain ⟨y, hy, e⟩ := List.mem_map.1 hm
        have h1 := hb x (by simp); have h2 := hb y (List.mem_cons_of_mem _ hy)
        have : y = x := by omega
        subst this
        exact (List.nodup_cons.1 hd).1 hy
    exact key h.nd h.rng
  have h2 := nodup_len n h1 fun x hx => by
    obtain ⟨y, hy, rfl⟩ := List.mem_map.1 hx
    have := h.rng y hy; omega
  simpa using h2
theorem bfs_init (hs : 0 ≤ s ∧ s < n) : Bfs E s n ((List.replicate n (-1)).set s.toNat 0) [s] 0 := by
  have hat : ∀ v : Int, 0 ≤ v → v < n → atI ((List.replicate n (-1)).set s.toNat 0) v = if v = s then 0 else -1 := by
    intro v h0 h1
    rw [atI_set (by simpa using hs) h0]
    split
    · rfl
    · unfold atI; rw [nth_get (by simp; omega)]; simp
  refine ⟨by simp, by simp, ?_, ?_, by simpa using hs, by simp, ?_, by rw [hat s hs.1 hs.2, if_pos rfl], ?_, ?_, fun i hi => by omega, ?_⟩
  rotate_right
  · intro v h0 h1; rw [hat v h0 h1]; simp only [List.length_cons, List.length_nil]; split <;> omega
  · intro v h0 h1; rw [hat v h0 h1]; split <;> omega
  · intro v h0 h1; rw [hat v h0 h1]; split <;> simp_all
  · intro v h0 h1 h2
    rw [hat v h0 h1] at h2 ⊢
    split at h2
    · rename_i e; subst e; rw [if_pos rfl]; exact .zero
    · omega
  · intro i j hij hj
    simp at hj
    have : i = 0 := by omega
    subst this; subst hj; omega
  · intro j hj _
    simp at hj
    subst hj; omega
theorem bfs_push (h : Bfs E s n out q k) (hk : k < q.length) {v : Int} (hv : 0 ≤ v ∧ v < n) (he : (nth q k, v) ∈ E) (hn : atI out v < 0) : Bfs E s n (out.set v.toNat (atI out (nth q k) + 1)) (q ++ [v]) k := by
  have hu := h.rng _ (nth_mem hk)
  have hd0 : 0 ≤ atI out (nth q k) := (h.mem _ hu.1 hu.2).2 (nth_mem hk)
  have hvq : v ∉ q := fun hm => by have := (h.mem v hv.1 hv.2).2 hm; omega
  have hat : ∀ x : Int, 0 ≤ x → atI (out.set v.toNat (atI out (nth q k) + 1)) x = if x = v then atI out (nth q k) + 1 else atI out x := fun x hx => atI_set (by rw [h.len]; exact hv) hx
  have hold : ∀ x ∈ q, atI (out.set v.toNat (atI out (nth q k) + 1)) x = atI out x := fun x hx => by
    rw [hat x (h.rng x hx).1, if_neg]; rintro rfl; exact hvq hx
  have hqi : ∀ i, i < q.length → atI (out.set v.toNat (atI out (nth q k) + 1)) (nth (q ++ [v]) i) = atI out (nth q i) := fun i hi => by
    rw [nth_app_left hi]; exact hold _ (nth_mem hi)
  have hql : atI (out.set v.toNat (atI out (nth q k) + 1)) (nth (q ++ [v]) q.length) = atI out (nth q k) + 1 := by
    rw [nth_app_last, hat v hv.1, if_pos rfl]
  refine ⟨by simp [h.len], by simp; have := h.kq; omega, ?_, ?_, ?_, ?_, ?_, ?_, ?_, ?_, ?_, ?_⟩
  rotate_right
  · intro x h0 h1
    have h2 := h.bnd _ h0 h1; have h3 := h.bnd _ hu.1 hu.2
    rw [hat x h0, List.length_append]; simp only [List.length_cons, List.length_nil]; split <;> omega
  · intro x h0 h1; rw [hat x h0]; split
    · omega
    · exact h.ge x h0 h1
  · intro x h0 h1; rw [hat x h0]; split
    · rename_i e; subst e; simp; omega
    · rename_i e; rw [h.mem x h0 h1]; simp [e]
  · intro x hx
    rcases List.mem_append.1 hx with hx | hx
    · exact h.rng x hx
    · simp at hx; subst hx; exact hv
  · refine List.nodup_append.2 ⟨h.nd, by simp, fun a ha b hb e => ?_⟩
    simp at hb; subst hb; subst e; exact hvq ha
  · intro x h0 h1 h2
    rw [hat x h0] at h2 ⊢
    split
    · rename_i e; subst e
      have hw := Walk.step (h.walk _ hu.1 hu.2 hd0) he
      rw [show (atI out (nth q k) + 1).toNat = (atI out (nth q k)).toNat + 1 by omega]; exact hw
    · rename_i e; rw [if_neg e] at h2; exact h.walk x h0 h1 h2
  · have hs := h.start
    by_cases e : s = v
    · subst e; omega
    · by_cases h0 : 0 ≤ s
      · rw [hat s h0, if_neg e]; exact hs
      · unfold atI at hs ⊢
        by_cases e2 : v.toNat = s.toNat
        · have e3 : s.toNat = 0 := by omega
          have : atI out v = nth out s.toNat := by unfold atI; rw [e2]
          omega
        · rw [nth_set_ne e2]; exact hs
  · intro i j hij hj
    simp only [List.length_append, List.length_cons, List.length_nil] at hj
    by_cases hjq : j < q.length
    · rw [hqi i (by omega), hqi j hjq]; exact h.mono i j hij hjq
    · have : j = q.length := by omega
      subst this
      rw [hql]
      by_cases hiq : i < q.length
      · rw [hqi i hiq]; exact h.near i hiq hk
      · have : i = q.length := by omega
        subst this; rw [hql]; omega
  · intro j hj _
    simp only [List.length_append, List.length_cons, List.length_nil] at hj
    rw [hqi k hk]
    by_cases hjq : j < q.length
    · rw [hqi j hjq]; exact h.near j hjq hk
    · have : j = q.length := by omega
      subst this; rw [hql]; omega
  · intro i hi x hx
    have hiq : i < q.length := by omega
    rw [hqi i hiq]
    rw [nth_app_left hiq] at hx
    have h1 := h.done i hi x hx
    by_cases h0 : 0 ≤ x
    · rw [hat x h0]
      split
      · rename_i e; subst e; omega
      · exact h1
    · unfold atI at h1 ⊢
      by_cases e2 : v.toNat = x.toNat
      · have : atI out v = nth out x.toNat := by unfold atI; rw [e2]
        omega
      · rw [nth_set_ne e2]; exact h1
theorem bfs_next (h : Bfs E s n out q k) (hk : k < q.length) (hd : ∀ v, (nth q k, v) ∈ E → 0 ≤ atI out v ∧ atI out v ≤ atI out (nth q k) + 1) : Bfs E s n out q (k + 1) := by
  refine ⟨h.len, by omega, h.ge, h.mem, h.rng, h.nd, h.walk, h.start, h.mono, fun j hj hk' => ?_, fun i hi v hv => ?_, h.bnd⟩
  · have := h.near j hj hk; have := h.mono k (k + 1) (by omega) hk'; omega
  · by_cases e : i = k
    · subst e; exact hd v hv
    · exact h.done i (by omega) v hv
theorem bfs_end (h : Bfs E s n out q k) (hk : ¬ k < q.length) (hE : ∀ e ∈ E, (0 ≤ e.1 ∧ e.1 < n) ∧ 0 ≤ e.2 ∧ e.2 < n) (hs : 0 ≤ s ∧ s < n) : ∀ v : Int, 0 ≤ v → v < n → atI out v = dist E s v := by
  refine dist_of hE hs h.start h.ge h.walk fun e he h0 => ?_
  have h1 := hE e he
  obtain ⟨i, hi, e1⟩ := List.getElem_of_mem ((h.mem e.1 h1.1.1 h1.1.2).1 h0)
  have h2 := h.done i (by have := h.kq; omega) e.2
  rw [nth_get hi, e1] at h2
  exact h2 he
end
/-- The distances of all places below n. -/
noncomputable def distL (n : Nat) (E : List (Int × Int)) (s : Int) : List Int := (List.range n).map fun k : Nat => dist E s (k : Int)
theorem distL_len (n : Nat) (E : List (Int × Int)) (s : Int) : (distL n E s).length = n := by simp [distL]
theorem distL_nth {n : Nat} {E : List (Int × Int)} {s : Int} {k : Nat} (h : k < n) : nth (distL n E s) k = dist E s k := by
  rw [nth_get (by rw [distL_len]; exact h)]; simp [distL]
theorem distL_of {n : Nat} {E : List (Int × Int)} {s : Int} {l : List Int} (hl : l.length = n) (h : ∀ v : Int, 0 ≤ v → v < n → atI l v = dist E s v) : l = distL n E s := by
  apply List.ext_getElem
  · rw [hl, distL_len]
  · intro i h1 h2
    have := h i (by omega) (by omega)
    unfold atI at this
    rw [Int.toNat_natCast, nth_get h1] at this
    rw [this, ← distL_nth (n := n) (by omega), nth_get h2]

/-! ### What follows a place -/
def succs (E : List (Int × Int)) (u : Int) : List Int := (E.filter fun e => decide (e.1 = u)).map Prod.snd
theorem mem_succs {E : List (Int × Int)} {u v : Int} : v ∈ succs E u ↔ (u, v) ∈ E := by
  unfold succs
  rw [List.mem_map]
  constructor
  · rintro ⟨⟨a, b⟩, h1, rfl⟩
    obtain ⟨h2, h3⟩ := List.mem_filter.1 h1
    have := of_decide_eq_true h3
    simp only at this; subst this; exact h2
  · intro h; exact ⟨(u, v), List.mem_filter.2 ⟨h, by simp⟩, rfl⟩
theorem succs_snoc (E : List (Int × Int)) (e : Int × Int) (u : Int) : succs (E ++ [e]) u = if e.1 = u then succs E u ++ [e.2] else succs E u := by
  unfold succs
  rw [List.filter_append, List.map_append]
  split
  · rename_i h; simp [h]
  · rename_i h; simp [h]
theorem succs_len (E : List (Int × Int)) (u : Int) : (succs E u).length ≤ E.length := by
  unfold succs; rw [List.length_map]; exact List.length_filter_le _ _
/-- For each place below n what follows it, as rows. -/
def nextRows (n : Nat) (E : List (Int × Int)) : List (List (List D)) := (List.range n).map fun u : Nat => ints (succs E u)
theorem nextRows_len (n : Nat) (E : List (Int × Int)) : (nextRows n E).length = n := by simp [nextRows]
theorem nextRows_nth {n : Nat} {E : List (Int × Int)} {u : Nat} (h : u < n) : nth (nextRows n E) u = ints (succs E u) := by
  rw [nth_get (by rw [nextRows_len]; exact h)]; simp [nextRows]
theorem nextRows_nil (n : Nat) : nextRows n [] = List.replicate n [] := by
  unfold nextRows
  apply List.ext_getElem
  · simp
  · intro i h1 h2; simp [succs, ints]
theorem nextRows_snoc {n : Nat} {E : List (Int × Int)} {e : Int × Int} {u : Nat} (hu : (u : Int) = e.1) (h : u < n) : nextRows n (E ++ [e]) = (nextRows n E).set u (nth (nextRows n E) u ++ [[.lit (.int .i64 e.2)]]) := by
  apply List.ext_getElem
  · simp [nextRows]
  · intro i h1 h2
    rw [List.getElem_set]
    simp only [nextRows, List.length_map, List.length_range] at h1
    split
    · rename_i hi; subst hi
      rw [nextRows_nth h]
      simp [nextRows, succs_snoc, hu, ints]
    · rename_i hi
      simp only [nextRows, List.getElem_map, List.getElem_range]
      rw [succs_snoc, if_neg (by omega)]
end Go.Proofs.Ytidfmgahnmpcdaa
