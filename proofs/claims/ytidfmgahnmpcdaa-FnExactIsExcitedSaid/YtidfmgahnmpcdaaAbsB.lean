/- Symbolic states: a slot written, memory made, memory written. No condition. -/
import Derived.Test.YtidfmgahnmpcdaaAbsA
set_option linter.unusedSimpArgs false
set_option linter.unusedVariables false
namespace Go.Proofs.Ytidfmgahnmpcdaa
open Go.ChangeShapes Go.WideShapes Go.ChangeAt Go.RowKit

def St.put (s : St) (t : Option Tmp) (d : D) : St := match t with | some x => ⟨s.n, (x, d) :: s.slots, s.heap⟩ | none => s

section
variable {w0 w w' : World} {A : Nat → Prop} {ms : List Ent} {s : St} {a : Act}

theorem Rel.put (h : Rel w0 A ms s a w) {t : Option Tmp} {d : D} {v : Value} (hv : VX ms w (OkB w0.heap.size A ms w) d v) (ht : t.all (· < s.n) = true) : Rel w0 A ms (s.put t d) (a.put t v) w := by
  cases t with
  | none => exact h
  | some x =>
    have hx : x < a.tmps.size := by rw [h.size]; simpa using ht
    refine ⟨h.ext, h.old, by simp [Act.put, St.put, h.size], h.defers, h.len, h.nodup, h.range, h.ents, fun y => ?_⟩
    simp only [Act.put, St.put, St.get, look]
    by_cases e : y = x
    · subst e
      rw [if_pos rfl]
      simp only [Array.getD_eq_getD_getElem?]
      rw [Array.getElem?_setIfInBounds_self_of_lt hx]; exact hv
    · rw [if_neg e]
      simp only [Array.getD_eq_getD_getElem?]
      rw [Array.getElem?_setIfInBounds_ne (Ne.symm e)]
      simpa [Array.getD_eq_getD_getElem?, St.get] using h.slots y

def Blk.uses (i : Nat) : Blk → Bool
  | .cells _ ds => D.usesL i ds
  | _ => false

theorem ownsRow_keep {base : Nat} {e : TypeId} {size : Nat} {v : Value} {n : Nat} {xs : List Value} (h : w.ownsRow base e size v n xs) (hk : ∀ k, v.ownBlock = some k → w'.heap[k]? = w.heap[k]?) : w'.ownsRow base e size v n xs := by
  obtain ⟨h1, h2⟩ := h
  refine ⟨h1, ?_⟩
  rcases h2 with h2 | ⟨g, cap, cur, rfl, hg, hh, r⟩
  · exact Or.inl h2
  · exact Or.inr ⟨g, cap, cur, rfl, hg, by rw [hk g rfl]; exact hh, r⟩

theorem EntR.mono {base : Nat} {ms' : List Ent} {Ok Ok' : Nat → Prop} {b : Blk} {e : Ent} (h : EntR base ms w Ok b e) (hk : ∀ k, Ok k → w'.heap[k]? = w.heap[k]? ∧ Ok' k) (ht : ∀ k, e.top = some k → w'.heap[k]? = w.heap[k]?)
    (hn : ∀ k ∈ e.nest, w'.heap[k]? = w.heap[k]?) (hm : ∀ (i : Nat) (e : Ent), b.uses i = true → ms[i]? = some e → ms'[i]? = some e) : EntR base ms' w' Ok' b e := by
  cases b with
  | gone => exact h
  | cust R =>
    have hh : ∀ k ∈ e.top.toList ++ e.nest, w'.heap[k]? = w.heap[k]? := by
      intro k hk'
      rcases List.mem_append.1 hk' with h1 | h1
      · exact ht k (by simpa using h1)
      · exact hn k h1
    exact ⟨h.2 w' hh, fun w2 h2 => h.2 w2 fun k hk' => (h2 k hk').trans (hh k hk')⟩
  | fr n xs => exact ⟨h.1, h.2.1.keep hn, fun k hk' => (h.2.2 k hk').keep (hn k hk')⟩
  | cells t ds =>
    obtain ⟨b, us, rfl, h2, h3⟩ := h
    exact ⟨b, us, rfl, by rw [ht b rfl]; exact h2, VXs.mono hk h3 hm⟩
  | arr t n xs deep =>
    obtain ⟨us, bs, h1, h2, h3, h4, h5⟩ := h
    refine ⟨us, bs, ownsRow_keep h1 (by rw [← h4]; exact ht), h2, h3.keep ?_, h4, ?_⟩
    · intro k hk'
      cases deep
      · exact (hk k (h5.2 k hk')).1
      · exact hn k (by rw [h5.1]; exact hk')
    · cases deep
      · exact ⟨h5.1, fun k hk' => (hk k (h5.2 k hk')).2⟩
      · exact ⟨h5.1, fun k hk' => (h5.2 k hk').keep (hn k (by rw [h5.1]; exact hk'))⟩

theorem owned_append (es : List Ent) : owned (ms ++ es) = owned ms ++ owned es := by simp [owned]
theorem tops_append (es : List Ent) : tops (ms ++ es) = tops ms ++ tops es := by simp [tops]
theorem tops_owned {k : Nat} (h : k ∈ tops ms) : k ∈ owned ms := by
  simp only [tops, List.mem_filterMap, owned, List.mem_flatMap] at *
  obtain ⟨e, he, ht⟩ := h
  exact ⟨e, he, by simp [ht]⟩
theorem ent_owned {i : Nat} {e : Ent} {k : Nat} (h : ms[i]? = some e) (hk : k ∈ e.top.toList ++ e.nest) : k ∈ owned ms := by
  simp only [owned, List.mem_flatMap]; exact ⟨e, List.mem_of_getElem? h, hk⟩

/-- Memory is made; nothing that was there changes. -/
theorem Rel.grow (h : Rel w0 A ms s a w) (x : Ext w w') (es : List Ent) (bl : List Blk) (hl : es.length = bl.length) (hn : (owned es).Nodup) (hr : ∀ k ∈ owned es, w.heap.size ≤ k ∧ k < w'.heap.size)
    (he : ∀ (i : Nat) (b : Blk) (e : Ent), bl[i]? = some b → es[i]? = some e → EntR w0.heap.size (ms ++ es) w' (OkB w0.heap.size A (ms ++ es) w') b e) : Rel w0 A (ms ++ es) ⟨s.n, s.slots, s.heap ++ bl⟩ a w' := by
  have hb := h.ext.size
  have hk : ∀ k, OkB w0.heap.size A ms w k → w'.heap[k]? = w.heap[k]? ∧ OkB w0.heap.size A (ms ++ es) w' k := by
    intro k ⟨h1, h2, h3⟩
    refine ⟨x.heap h1, Nat.lt_of_lt_of_le h1 x.size, h2, ?_⟩
    rw [tops_append, List.mem_append]
    rintro (h4 | h4)
    · exact h3 h4
    · have := hr k (tops_owned h4); omega
  have hm : ∀ (i : Nat) (e : Ent), ms[i]? = some e → (ms ++ es)[i]? = some e := by
    intro i e hi
    rw [List.getElem?_append_left (List.getElem?_eq_some_iff.1 hi).1]; exact hi
  refine ⟨h.ext.trans x, h.old, h.size, h.defers, by simp [h.len, hl], ?_, ?_, ?_, fun t => VX.mono hk (h.slots t) fun i e _ hi => hm i e hi⟩
  · rw [owned_append]
    refine List.nodup_append.2 ⟨h.nodup, hn, fun p hp q hq e => ?_⟩
    subst e
    have := h.range p hp; have := hr p hq; omega
  · intro k hk'
    rw [owned_append, List.mem_append] at hk'
    rcases hk' with hk' | hk'
    · exact ⟨(h.range k hk').1, Nat.lt_of_lt_of_le (h.range k hk').2 x.size⟩
    · exact ⟨by have := (hr k hk').1; omega, (hr k hk').2⟩
  · intro i b e hi hei
    by_cases hlt : i < s.heap.length
    · simp only [List.getElem?_append_left hlt] at hi
      rw [List.getElem?_append_left (by rw [h.len]; exact hlt)] at hei
      exact (h.ents i b e hi hei).mono hk (fun k hk' => x.heap (h.range k (ent_owned hei (by simp [hk']))).2) (fun k hk' => x.heap (h.range k (ent_owned hei (List.mem_append_right _ hk'))).2) (fun j e _ hj => hm j e hj)
    · simp only [List.getElem?_append_right (Nat.le_of_not_lt hlt)] at hi
      rw [List.getElem?_append_right (by rw [h.len]; omega), h.len] at hei
      exact he _ b e hi hei

theorem Rel.later (h : Rel w0 A ms s a w) (x : Ext w w') : Rel w0 A ms s a w' := by
  have := h.grow x [] [] rfl (by simp [owned]) (by simp [owned]) (by simp)
  simpa using this

/-- A new variable. -/
theorem Rel.box (h : Rel w0 A ms s a w) {t : TypeId} {ds : List D} {us : List Value} (hv : VXs ms w (OkB w0.heap.size A ms w) ds us) :
    Rel w0 A (ms ++ [⟨.pointer (some ⟨w.heap.size, 0, none⟩), some w.heap.size, []⟩]) ⟨s.n, s.slots, s.heap ++ [.cells t ds]⟩ a (w.alloc (.cells us.toArray t (0, 0))) := by
  have hx : Ext w (w.alloc (.cells us.toArray t (0, 0))) := (Ext.refl w).alloc _
  refine h.grow hx _ _ rfl (by simp [owned]) (by simp [owned]) ?_
  intro i b e hi hei
  cases i with
  | succ i => simp at hi
  | zero =>
    simp at hi hei
    subst hi; subst hei
    refine ⟨_, us, rfl, heap_alloc_new w _, VXs.mono ?_ hv ?_⟩
    · intro k ⟨h1, h2, h3⟩
      refine ⟨hx.heap h1, Nat.lt_of_lt_of_le h1 hx.size, h2, ?_⟩
      rw [tops_append, List.mem_append]
      rintro (h4 | h4)
      · exact h3 h4
      · simp [tops] at h4; omega
    · intro i e _ hi
      rw [List.getElem?_append_left (List.getElem?_eq_some_iff.1 hi).1]; exact hi

/-- A change in the block of one entry, and there alone. -/
theorem Rel.change (h : Rel w0 A ms s a w) {i g : Nat} {e : Ent} {b' : Blk} (hi : ms[i]? = some e) (ht : e.top = some g) (hg : ∀ k, k ≠ g → w'.heap[k]? = w.heap[k]?) (hz : w'.heap.size = w.heap.size) (hB : Below w0.heap.size w w')
    (hnew : (∀ k, OkB w0.heap.size A ms w k → w'.heap[k]? = w.heap[k]? ∧ OkB w0.heap.size A ms w' k) → (∀ k ∈ e.nest, w'.heap[k]? = w.heap[k]?) → EntR w0.heap.size ms w' (OkB w0.heap.size A ms w') b' e) : Rel w0 A ms ⟨s.n, s.slots, s.heap.set i b'⟩ a w' := by
  have hk : ∀ k, OkB w0.heap.size A ms w k → w'.heap[k]? = w.heap[k]? ∧ OkB w0.heap.size A ms w' k := by
    intro k ⟨h1, h2, h3⟩
    refine ⟨hg k (fun e' => h3 ?_), by rw [hz]; exact h1, h2, h3⟩
    subst e'
    simp only [tops, List.mem_filterMap]; exact ⟨e, List.mem_of_getElem? hi, ht⟩
  have hnd : ∀ j e' k, j ≠ i → ms[j]? = some e' → k ∈ e'.top.toList ++ e'.nest → k ≠ g := by
    intro j e' k hji hj hk' e2
    subst e2
    have hp := h.nodup
    unfold owned at hp
    rw [List.nodup_iff_pairwise_ne, List.pairwise_flatMap] at hp
    obtain ⟨_, hp⟩ := hp
    have hj' := (List.getElem?_eq_some_iff.1 hj); have hi' := (List.getElem?_eq_some_iff.1 hi)
    rw [List.pairwise_iff_getElem] at hp
    rcases Nat.lt_or_gt_of_ne hji with hl | hl
    · exact hp j i hj'.1 hi'.1 hl k (by rw [hj'.2]; exact hk') k (by rw [hi'.2]; simp [ht]) rfl
    · exact hp i j hi'.1 hj'.1 hl k (by rw [hi'.2]; simp [ht]) k (by rw [hj'.2]; exact hk') rfl
  have hnest : ∀ k ∈ e.nest, w'.heap[k]? = w.heap[k]? := by
    intro k hk'
    refine hg k fun e2 => ?_
    subst e2
    have hp := h.nodup
    unfold owned at hp
    rw [List.nodup_iff_pairwise_ne, List.pairwise_flatMap] at hp
    have := hp.1 e (List.mem_of_getElem? hi)
    rw [ht] at this
    simp at this
    exact this.1 k hk' rfl
  refine ⟨Below.trans h.ext hB, h.old, h.size, h.defers, by simp [h.len], h.nodup, fun k hk' => ⟨(h.range k hk').1, by rw [hz]; exact (h.range k hk').2⟩, ?_, fun t => VX.mono hk (h.slots t) fun _ _ _ h => h⟩
  intro j b e2 hj hej
  by_cases hji : j = i
  · subst hji
    have hlt : j < s.heap.length := by rw [← h.len]; exact (List.getElem?_eq_some_iff.1 hi).1
    simp only [List.getElem?_set_self hlt, Option.some.injEq] at hj
    rw [hi] at hej
    cases hej
    subst hj
    exact hnew hk hnest
  · simp only [List.getElem?_set_ne (Ne.symm hji)] at hj
    exact (h.ents j b e2 hj hej).mono hk (fun k hk' => hg k (hnd j e2 k hji hej (by simp [hk']))) (fun k hk' => hg k (hnd j e2 k hji hej (List.mem_append_right _ hk'))) (fun _ _ _ h => h)
end
end Go.Proofs.Ytidfmgahnmpcdaa
