/- Arrays of arrays, read as arrays of slices. No condition. -/
import Derived.Test.YtjfipianehabgaaAbsY
set_option linter.unusedSimpArgs false
set_option linter.unusedVariables false
namespace Go.Proofs.Ytjfipianehabgaa
open Go.ChangeShapes Go.WideShapes Go.ChangeAt Go.RowKit

theorem Inner.vr {w : World} {t : TypeId} {m : Nat} {u : Value} {xs : List (List D)} (h : Inner w t m u xs) : VR w (.sh m xs) u u.ownBlock.toList ∧ ∀ k ∈ u.ownBlock.toList, Un w k := by
  obtain ⟨us, h0, h3, h4⟩ := h
  have h0' := h0
  obtain ⟨h1, h2⟩ := h0
  rcases h2 with ⟨rfl, h5⟩ | ⟨g, cap, cur, rfl, _, h6, h7, h8, h9, h10⟩
  · have hx : xs = [] := List.length_eq_zero_iff.1 h5
    subst hx
    exact ⟨.shnil (by omega) (fun _ => rfl), by simp [Value.ownBlock]⟩
  · have hlt : g < w.heap.size := (Array.getElem?_eq_some_iff.1 h6).1
    refine ⟨?_, fun k hk => ?_⟩
    · have := VR.sh (w := w) (n := m) (xs := xs) (b := g) (o := 0) (cap := cap) (us := us) (bs := []) (fun r hr => (h3 r hr).1) h7 (by unfold maxLen at h8; omega) hlt h4 (fun j hj => by
        rw [Nat.zero_add]; exact h0'.cellAt j (by omega))
      simpa [Value.ownBlock] using this
    · simp [Value.ownBlock] at hk; subst hk; exact ⟨cur, t, h6⟩
theorem rows_vrs {w : World} {t : TypeId} {m : Nat} : ∀ {vs : List Value} {rows : List (List (List D))}, rows.length = vs.length → (∀ j, j < vs.length → Inner w t m (nth vs j) (nth rows j)) → VRs w (rows.map fun r => [D.sh m r]).flatten vs (vs.flatMap fun u => u.ownBlock.toList)
  | [], [], _, _ => .nil
  | [], _ :: _, h, _ => by simp at h
  | _ :: _, [], h, _ => by simp at h
  | v :: vs, r :: rows, h, hi => by
    have h0 := (hi 0 (by simp)).vr.1
    rw [nth_cons_zero, nth_cons_zero] at h0
    have := rows_vrs (w := w) (t := t) (m := m) (vs := vs) (rows := rows) (by simpa using h) fun j hj => by
      have := hi (j + 1) (by simpa using hj)
      rwa [nth_cons_succ, nth_cons_succ] at this
    simpa using VRs.cons h0 this
theorem Weak_mat {w0 : World} {A : Nat → Prop} {s : St} (i : Nat) (T t : TypeId) (m : Nat) (vs : List Value) (rows : List (List (List D))) (h : s.heap[i]? = some (.cust (MatR T t m vs vs rows))) {hp' : List Blk} (e : hp' = s.heap.set i (.arr T 1 (rows.map fun r => [D.sh m r]) true)) : Weak w0 A s ⟨s.n, s.slots, hp'⟩ := by
  subst e
  intro ms a w hr
  have hil : i < s.heap.length := (List.getElem?_eq_some_iff.1 h).1
  refine ⟨ms, hr.ext, hr.old, hr.size, hr.defers, by simpa using hr.len, hr.nodup, hr.range, ?_, hr.slots⟩
  intro j b en hj hm
  by_cases hji : j = i
  · subst hji
    simp only at hj
    rw [List.getElem?_set_self hil] at hj
    cases hj
    obtain ⟨⟨h1, h2, h3, h4, h5, h6⟩, _⟩ := hr.ents j _ en h hm
    refine ⟨vs, vs.flatMap fun u => u.ownBlock.toList, ?_, ?_, rows_vrs h4 h6, h2, ?_⟩
    · obtain ⟨g1, g2⟩ := h1
      refine ⟨by rw [g1, List.length_map, h4], ?_⟩
      rcases g2 with ⟨g3, g4⟩ | ⟨g, cap, cur, g3, _, g5⟩
      · exact .inl ⟨g3, by simpa [h4] using g4⟩
      · refine .inr ⟨g, cap, cur, by simpa [h4] using g3, ?_, by simpa [h4] using g5⟩
        have : en.top = some g := by rw [h2, g3]; rfl
        exact (hr.range g (ent_owned hm (by rw [this]; simp))).1
    · intro r hr'
      obtain ⟨x, _, rfl⟩ := List.mem_map.1 hr'; rfl
    · rw [if_pos rfl]
      refine ⟨h5, fun k hk => ?_⟩
      obtain ⟨u, hu, hk'⟩ := List.mem_flatMap.1 hk
      obtain ⟨j', hj', rfl⟩ := List.getElem_of_mem hu
      have := (h6 j' hj').vr.2
      rw [nth_get hj'] at this
      exact this k hk'
  · simp only at hj
    rw [List.getElem?_set_ne (Ne.symm hji)] at hj
    exact hr.ents j b en hj hm
/-- A last step on what is known, at the end of a walk. -/
theorem W_weakR {P : Program} {w0 : World} {A : Nat → Prop} {c : Code} {s : St} {Q : Exit → St → Prop} (h : W P w0 A c s fun e s' => ∃ s'', Weak w0 A s' s'' ∧ Q e s'') : W P w0 A c s Q := by
  refine ⟨fun ms a w hr => Code.wp_mono ?_ (h.run ms a w hr)⟩
  rintro e a' w' ⟨ms', s', hr', s'', hw, hq⟩
  obtain ⟨ms'', hr''⟩ := hw ms' a' w' hr'
  exact ⟨ms'', s'', hr'', hq⟩
end Go.Proofs.Ytjfipianehabgaa
