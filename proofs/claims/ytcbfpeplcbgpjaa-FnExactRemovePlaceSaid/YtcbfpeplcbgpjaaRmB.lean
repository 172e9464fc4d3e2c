/- A store to an element of a deep array that takes slices of the call's own into it. No condition. A place struck out: what the reference's function hands back. No condition. -/
import Derived.Test.YtcbfpeplcbgpjaaTag
import Derived.Test.YtcbfpeplcbgpjaaPinA
import Derived.Test.YtcbfpeplcbgpjaaRmL
import Derived.Test.YtcbfpeplcbgpjaaRen
set_option linter.unusedSimpArgs false
set_option linter.unusedVariables false
set_option maxHeartbeats 2000000
namespace Go.Proofs.Ytcbfpeplcbgpjaa
open Go.ChangeShapes Go.WideShapes Go.ChangeAt Go.RowKit

mutual
theorem VX.mono2 {ms ms' : List Ent} {w w' : World} {Ok Ok' : Nat → Prop} (hk : ∀ k, Ok k → w'.heap[k]? = w.heap[k]? ∧ Ok' k) : ∀ {d : D} {u : Value}, VX ms w Ok d u → (∀ (i : Nat) (e : Ent), d.uses i = true → ms[i]? = some e → ∃ e', ms'[i]? = some e' ∧ e'.v = e.v ∧ e'.top = e.top) → VX ms' w' Ok' d u
  | _, _, .no, _ => .no
  | _, _, .rd h h', _ => .rd (h.keep fun k m => (hk k (h' k m)).1) fun k m => (hk k (h' k m)).2
  | _, _, .own h h', hm => by
    obtain ⟨e', h1, h2, _⟩ := hm _ _ (by simp [D.uses]) h
    rw [← h2]; exact .own h1 (by rw [h2]; exact h')
  | _, _, .vec h h', hm => by
    obtain ⟨e', h1, _, h3⟩ := hm _ _ (by simp [D.uses]) h
    exact .vec h1 (by rw [h3]; exact h')
  | _, _, .ptr h h', hm => by
    obtain ⟨e', h1, _, h3⟩ := hm _ _ (by simp [D.uses]) h
    exact .ptr h1 (by rw [h3]; exact h')
  | _, _, .eptr h h', hm => by
    obtain ⟨e', h1, _, h3⟩ := hm _ _ (by simp [D.uses]) h
    exact .eptr h1 (by rw [h3]; exact h')
  | _, _, .part h h' h2, hm => by
    obtain ⟨e', g1, g2, _⟩ := hm _ _ (by simp [D.uses]) h
    exact .part g1 (by rw [g2]; exact h') h2
  | _, _, .sptr h h1 h2 h3, _ => .sptr (h.keep fun k m => (hk k (h2 k m)).1) (hk _ h1).2 (fun k m => (hk k (h2 k m)).2) fun j hj => by rw [cell_of_heap (hk _ h1).1]; exact h3 j hj
  | _, _, .agg h, hm => .agg (VXs.mono2 hk h fun i e hu => hm i e (by simpa [D.uses] using hu))
  | _, _, .tup h, hm => .tup (VXs.mono2 hk h fun i e hu => hm i e (by simpa [D.uses] using hu))
  | _, _, .fn h, hm => .fn (VXs.mono2 hk h fun i e hu => hm i e (by simpa [D.uses] using hu))
  | _, _, .old h h', _ => .old h h'
  | _, _, .val, _ => .val
theorem VXs.mono2 {ms ms' : List Ent} {w w' : World} {Ok Ok' : Nat → Prop} (hk : ∀ k, Ok k → w'.heap[k]? = w.heap[k]? ∧ Ok' k) : ∀ {ds : List D} {us : List Value}, VXs ms w Ok ds us → (∀ (i : Nat) (e : Ent), D.usesL i ds = true → ms[i]? = some e → ∃ e', ms'[i]? = some e' ∧ e'.v = e.v ∧ e'.top = e.top) → VXs ms' w' Ok' ds us
  | _, _, .nil, _ => .nil
  | _, _, .cons h h', hm => .cons (VX.mono2 hk h fun i e hu => hm i e (by simp [D.usesL, hu])) (VXs.mono2 hk h' fun i e hu => hm i e (by simp [D.usesL, hu]))
end
section
variable {P : Program} {w0 w w' : World} {A : Nat → Prop} {n : Nat} {sl : List (Nat × D)} {hp : List Blk} {ms ms' : List Ent} {a : Act}
theorem kill_mono2 {p : Nat → Bool} {Ok Ok' : Nat → Prop} (hk : ∀ k, Ok k → w'.heap[k]? = w.heap[k]? ∧ Ok' k) (hm : ∀ (i : Nat) (e : Ent), p i = false → ms[i]? = some e → ∃ e', ms'[i]? = some e' ∧ e'.v = e.v ∧ e'.top = e.top) {d : D} {u : Value} (h : VX ms w Ok d u) : VX ms' w' Ok' (d.kill p) u := by
  unfold D.kill
  cases hd : d.hits p
  · refine VX.mono2 hk h fun i e hu hi => hm i e ?_ hi
    cases hpi : p i
    · rfl
    · rw [D.hits_uses hd hpi] at hu; exact Bool.noConfusion hu
  · exact .no
theorem killD_mono2 {p : Nat → Bool} {Ok Ok' : Nat → Prop} (hk : ∀ k, Ok k → w'.heap[k]? = w.heap[k]? ∧ Ok' k) (hm : ∀ (i : Nat) (e : Ent), p i = false → ms[i]? = some e → ∃ e', ms'[i]? = some e' ∧ e'.v = e.v ∧ e'.top = e.top) : ∀ {ds : List D} {us : List Value}, VXs ms w Ok ds us → VXs ms' w' Ok' (killD p ds) us
  | _, _, .nil => .nil
  | _, _, .cons h h' => .cons (kill_mono2 hk hm h) (killD_mono2 hk hm h')
/-- A deep array's block is written; the elements may now lie behind blocks of entries that are given away (c). -/
theorem Rel.retake (hr : Rel w0 A ms ⟨n, sl, hp⟩ a w) {c : Nat → Bool} {i : Nat} {e : Ent} {T : TypeId} {m g : Nat} {xs xs' : List (List D)} {us bs : List _} (hi : ms[i]? = some e) (hb : hp[i]? = some (.arr T m xs true)) (hci : c i = false) (htop : e.top = some g)
    (hg : ∀ k, k ≠ g → w'.heap[k]? = w.heap[k]?) (hz : w'.heap.size = w.heap.size) (hB : Below w0.heap.size w w') (hown : w'.ownsRow w0.heap.size T m e.v xs'.length us) (hrow : ∀ r ∈ xs', r.length = m) (hv : VRs w xs'.flatten us bs) (hbn : bs.Nodup)
    (hbs : ∀ k ∈ bs, k ∈ e.nest ∨ ∃ (j : Nat) (x : Ent), c j = true ∧ ms[j]? = some x ∧ k ∈ x.top.toList ++ x.nest) (hun : ∀ k ∈ bs, Un w k) :
    ∃ ms', Rel w0 A ms' ⟨n, killS c sl, newH c c i (.arr T m xs' true) 0 hp⟩ a w' := by
  obtain ⟨us0, bs0, o1, o2, o3, o4, o5⟩ := hr.ents i _ e hb hi
  let e' : Ent := ⟨e.v, e.top, bs⟩
  let F : Nat → Ent → Ent := fun j x => if j = i then e' else if c j then ⟨x.v, none, []⟩ else x
  have hget : ∀ j, (ms.mapIdx F)[j]? = (ms[j]?).map (F j) := fun j => by rw [List.getElem?_mapIdx]
  have hFi : ∀ x, F i x = e' := fun x => if_pos rfl
  have hFc : ∀ j x, j ≠ i → c j = true → F j x = ⟨x.v, none, []⟩ := fun j x h1 h2 => by simp only [F, if_neg h1, h2, if_true]
  have hFo : ∀ j x, j ≠ i → c j = false → F j x = x := fun j x h1 h2 => by simp only [F, if_neg h1, h2]; rfl
  have hne : ∀ j, c j = true → j ≠ i := by rintro j h rfl; rw [hci] at h; exact Bool.noConfusion h
  have hgo : ∀ j x k, ms[j]? = some x → j ≠ i → k ∈ x.top.toList ++ x.nest → k ≠ g := by
    intro j x k hj hji hk h
    subst h
    exact owned_disjoint hr.nodup hji hj hi hk (by rw [htop]; simp)
  have hgn : ∀ k ∈ e.nest, k ≠ g := by
    intro k hk h
    subst h
    have := owned_self hr.nodup hi
    rw [htop] at this
    simp at this
    exact this.1 hk
  have hgb : ∀ k ∈ bs, k ≠ g := by
    intro k hk
    rcases hbs k hk with h | ⟨j, x, h1, h2, h3⟩
    · exact hgn k h
    · exact hgo j x k h2 (hne j h1) h3
  -- where a block of the new places lay before
  have hcl : ∀ j x k, (ms.mapIdx F)[j]? = some x → k ∈ x.top.toList ++ x.nest → ∃ j' x', ms[j']? = some x' ∧ k ∈ x'.top.toList ++ x'.nest ∧ ((j' = j ∧ (j = i ∨ c j = false)) ∨ (j = i ∧ c j' = true)) := by
    intro j x k hj hk
    rw [hget] at hj
    obtain ⟨x0, h1, rfl⟩ := Option.map_eq_some_iff.1 hj
    by_cases hji : j = i
    · subst hji
      rw [hi] at h1; cases h1
      rw [hFi] at hk
      simp only [e', List.mem_append] at hk
      rcases hk with hk | hk
      · exact ⟨j, e, hi, List.mem_append_left _ hk, Or.inl ⟨rfl, Or.inl rfl⟩⟩
      · rcases hbs k hk with h | ⟨j', x', h2, h3, h4⟩
        · exact ⟨j, e, hi, List.mem_append_right _ h, Or.inl ⟨rfl, Or.inl rfl⟩⟩
        · exact ⟨j', x', h3, h4, Or.inr ⟨rfl, h2⟩⟩
    · cases hc : c j
      · rw [hFo j _ hji hc] at hk
        exact ⟨j, x0, h1, hk, Or.inl ⟨rfl, Or.inr rfl⟩⟩
      · rw [hFc j _ hji hc] at hk
        simp at hk
  have hnd : (owned (ms.mapIdx F)).Nodup := by
    refine owned_nodup_of ?_ ?_
    · intro j x hj
      rw [hget] at hj
      obtain ⟨x0, h1, rfl⟩ := Option.map_eq_some_iff.1 hj
      by_cases hji : j = i
      · subst hji
        rw [hFi]
        show (e.top.toList ++ bs).Nodup
        rw [htop]
        refine List.nodup_append.2 ⟨by simp, hbn, fun p hp q hq h => ?_⟩
        subst h
        simp at hp
        exact hgb p hq hp
      · cases hc : c j
        · rw [hFo j _ hji hc]; exact owned_self hr.nodup h1
        · rw [hFc j _ hji hc]; simp
    · intro j1 j2 x1 x2 k hne' h1 h2 hk1 hk2
      obtain ⟨i1, y1, a1, a2, a3⟩ := hcl j1 x1 k h1 hk1
      obtain ⟨i2, y2, b1, b2, b3⟩ := hcl j2 x2 k h2 hk2
      have hii : i1 = i2 := by
        apply Classical.byContradiction; intro h
        exact owned_disjoint hr.nodup h a1 b1 a2 b2
      subst hii
      rcases a3 with ⟨rfl, a3⟩ | ⟨rfl, a3⟩ <;> rcases b3 with ⟨rfl, b3⟩ | ⟨rfl, b3⟩
      · exact hne' rfl
      · rcases a3 with rfl | a3
        · exact hne' rfl
        · rw [b3] at a3; exact Bool.noConfusion a3
      · rcases b3 with rfl | b3
        · exact hne' rfl
        · rw [a3] at b3; exact Bool.noConfusion b3
      · exact hne' rfl
  have hrange : ∀ k ∈ owned (ms.mapIdx F), w0.heap.size ≤ k ∧ k < w'.heap.size := by
    intro k hk
    obtain ⟨j, x, hj, hk⟩ := mem_owned hk
    obtain ⟨j', x', h1, h2, _⟩ := hcl j x k hj hk
    rw [hz]; exact hr.range k (ent_owned h1 h2)
  have hm : ∀ (j : Nat) (x : Ent), c j = false → ms[j]? = some x → ∃ x', (ms.mapIdx F)[j]? = some x' ∧ x'.v = x.v ∧ x'.top = x.top := by
    intro j x hcj hj
    by_cases hji : j = i
    · subst hji
      rw [hi] at hj; cases hj
      exact ⟨e', by rw [hget, hi, Option.map_some, hFi], rfl, rfl⟩
    · exact ⟨x, by rw [hget, hj, Option.map_some, hFo j x hji hcj], rfl, rfl⟩
  have hk : ∀ k, OkB w0.heap.size A ms w k → w'.heap[k]? = w.heap[k]? ∧ OkB w0.heap.size A (ms.mapIdx F) w' k := by
    intro k ⟨k1, k2, k3⟩
    refine ⟨hg k fun h => k3 (tops_mem hi (by rw [htop, h])), by rw [hz]; exact k1, k2, fun h => ?_⟩
    obtain ⟨j, x, hj, ht⟩ := mem_tops h
    rw [hget] at hj
    obtain ⟨x0, h4, rfl⟩ := Option.map_eq_some_iff.1 hj
    by_cases hji : j = i
    · subst hji
      rw [hFi] at ht
      exact k3 (tops_mem hi ht)
    · cases hc : c j
      · rw [hFo j _ hji hc] at ht; exact k3 (tops_mem h4 ht)
      · rw [hFc j _ hji hc] at ht; simp at ht
  refine ⟨ms.mapIdx F, ⟨Below.trans hr.ext hB, hr.old, hr.size, hr.defers, by simp [newH_len, hr.len], hnd, hrange, ?_, ?_⟩⟩
  · intro j b x hj hx
    simp only [newH_get, Nat.zero_add] at hj
    obtain ⟨b0, hb0, rfl⟩ := Option.map_eq_some_iff.1 hj
    rw [hget] at hx
    obtain ⟨x0, h1, rfl⟩ := Option.map_eq_some_iff.1 hx
    by_cases hji : j = i
    · subst hji
      rw [if_pos rfl, hFi]
      refine ⟨us, bs, hown, hrow, hv.keep fun k hk' => hg k (hgb k hk'), o4, ?_⟩
      rw [if_pos rfl]
      exact ⟨rfl, fun k hk' => (hun k hk').keep (hg k (hgb k hk'))⟩
    · rw [if_neg hji]
      cases hc : c j
      · rw [hFo j _ hji hc]
        simp only [Bool.false_eq_true, if_false]
        have hE := hr.ents j b0 x0 hb0 h1
        have ht : ∀ k, x0.top = some k → w'.heap[k]? = w.heap[k]? := fun k h => hg k (hgo j x0 k h1 hji (by simp [h]))
        have hn : ∀ k ∈ x0.nest, w'.heap[k]? = w.heap[k]? := fun k h => hg k (hgo j x0 k h1 hji (List.mem_append_right _ h))
        cases b0 with
        | gone => exact hE
        | arr _ _ _ _ => exact hE.mono hk ht hn fun _ _ hu _ => by simp [Blk.uses] at hu
        | fr _ _ => exact hE.mono hk ht hn fun _ _ hu _ => by simp [Blk.uses] at hu
        | cust _ => exact hE.mono hk ht hn fun _ _ hu _ => by simp [Blk.uses] at hu
        | cells t ds =>
          obtain ⟨g, us', rfl, h3, h4⟩ := hE
          exact ⟨g, us', rfl, by rw [ht g rfl]; exact h3, killD_mono2 hk hm h4⟩
      · rw [hFc j _ hji hc]
        simp only [if_true]
        exact ⟨rfl, rfl⟩
  · intro t
    rcases look_kill (p := c) (t := t) (l := sl) with h | h
    · simp only [St.get, h]; exact kill_mono2 hk hm (hr.slots t)
    · simp only [St.get, h]; exact .no
end
section
variable {P : Program} {w0 : World} {A : Nat → Prop} {n : Nat} {sl : List (Nat × D)} {hp : List Blk}
variable {ops : Array Oper} {rest : List Oper} {K : St → Prop} {x y : Operand} {dst : Tmp} {ty : TypeId} {pos : String} {after : Array Edge}
theorem R_estoreAbs {tab : Nat → Option TI} (hT : TabOk P tab) {t T : TypeId} {i m : Nat} {j : Int} {ds l r : List D} {js : List Nat} {xs xs' : List (List D)} {sl' : List (Nat × D)} {hp' : List Blk} {k : TK} {agg : Bool} {size bytes : Nat} {zero : List Value} {dst : Option Tmp}
    (hx : evD (look sl) x = .eptr i m j 0) (hb : hp[i]? = some (.arr T m xs true)) (ht : tab t = some ⟨k, agg, size, bytes, zero⟩) (hy : cellsD (evD (look sl) y) = some ds) (hz : Nat.beq ds.length size = true) (hle : Nat.beq ds.length m = true) (hab : absK hp ds (fun l js => some (l, js)) = some (l, js))
    (hrow : RowAt xs j r) (hnd : nodupN (i :: js) = true) (hset : SetAt xs j l xs') (hs : killK (fun q => memN q js) sl (fun l => some l) = some sl') (hh : newK (fun q => memN q js) (fun q => memN q js) i (.arr T m xs' true) 0 hp (fun l => some l) = some hp') (hd : dstOk ⟨n, sl', hp'⟩ dst = true)
    (hK : WO P w0 A ops rest (St.put ⟨n, sl', hp'⟩ dst (.tup [])) K) : WO P w0 A ops (⟨dst, .store t x y, ty, pos, after, none⟩ :: rest) ⟨n, sl, hp⟩ K := by
  refine ⟨fun ms a w hr Q hq => ?_⟩
  refine wpList_plain rfl fun Kn hKn => ?_
  obtain ⟨inf, td, z, q1, q2, q3, q4, q5, q6, _⟩ := hT.get ht
  have hz := Nat.eq_of_beq_eq_true hz
  have hle := Nat.eq_of_beq_eq_true hle
  have hset : xs' = xs.set j.toNat l := hset
  subst hset
  obtain ⟨e, b, hi, htop, e1⟩ := (hr.ev_at hx).eptr_inv
  obtain ⟨us, bs, o1, o2, o3, o4, o5⟩ := hr.ents i _ e hb hi
  rw [if_pos rfl] at o5
  obtain ⟨vs, e2, hvs⟩ := cellsD_ok (hr.ev y) hy
  have hlv := hvs.len
  obtain ⟨l', js', h1, h2, h3⟩ := absK_ok hr hvs hab
  simp only [Option.some.injEq, Prod.mk.injEq] at h1
  obtain ⟨rfl, rfl⟩ := h1
  have hll : l'.length = m := by rw [← h2.len, hlv, hle]
  have hnd' := nodupN_iff hnd
  rw [List.nodup_cons] at hnd'
  have hci : memN i js' = false := by
    cases h : memN i js'
    · rfl
    · exact (hnd'.1 (memN_iff.1 h)).elim
  have hmem : ∀ q ∈ (js'.flatMap fun j => match ms[j]? with | some e => e.top.toList ++ e.nest | none => []), ∃ (j : Nat) (e' : Ent), memN j js' = true ∧ ms[j]? = some e' ∧ q ∈ e'.top.toList ++ e'.nest ∧ Un w q := by
    intro q hq
    obtain ⟨j, hj, hq⟩ := List.mem_flatMap.1 hq
    obtain ⟨e', he', hu⟩ := h3 j hj
    rw [he'] at hq
    exact ⟨j, e', memN_iff.2 hj, he', hq, hu q hq⟩
  have hnn : (js'.flatMap fun j => match ms[j]? with | some e => e.top.toList ++ e.nest | none => []).Nodup := by
    rw [List.nodup_iff_pairwise_ne, List.pairwise_flatMap]
    refine ⟨fun j hj => ?_, ?_⟩
    · obtain ⟨e', he', _⟩ := h3 j hj
      rw [he']
      exact List.nodup_iff_pairwise_ne.1 (owned_self hr.nodup he')
    · have hn2 : js'.Nodup := hnd'.2
      rw [List.nodup_iff_pairwise_ne] at hn2
      refine List.Pairwise.imp_of_mem ?_ hn2
      intro j1 j2 hj1 hj2 hne q1 hq1 q2 hq2 e
      subst e
      obtain ⟨e1', he1, _⟩ := h3 j1 hj1
      obtain ⟨e2', he2, _⟩ := h3 j2 hj2
      rw [he1] at hq1; rw [he2] at hq2
      exact owned_disjoint hr.nodup hne he1 he2 hq1 hq2
  generalize (js'.flatMap fun j => match ms[j]? with | some e => e.top.toList ++ e.nest | none => []) = nk at h2 hmem hnn
  have hlt := (List.getElem?_eq_some_iff.1 hrow.2).1
  have hml := mul_lt_of (m := m) hlt
  obtain ⟨hl, ⟨hv, h0⟩ | ⟨g, cap, cur, hv, hg, hh1, c1, c2, c3, c4⟩⟩ := o1
  · omega
  have hbg : b = g := by rw [o4, hv] at htop; simpa [Value.ownBlock] using htop.symm
  subst hbg
  have hcap : xs.length * m ≤ cap * m := Nat.mul_le_mul_right m c1
  have hst := run_storeCells_at P b (j.toNat * m) T vs 0 cur w hh1 (by omega) h2.one
  simp only [Nat.add_zero] at hst
  have hput : (cur.toList.take (j.toNat * m) ++ vs ++ cur.toList.drop (j.toNat * m + vs.length)) = putL (j.toNat * m) vs cur.toList := (putL_splice _ vs cur.toList (by simp; omega)).symm
  simp only [hput] at hst
  have hrun : (execOp a.eval ⟨dst, .store t x y, ty, pos, after, none⟩).run P w = .ok .skip (w.setRow b (putL (j.toNat * m) vs cur.toList).toArray) := by
    simp only [execOp, e1, Instr.storeAt, Instr.sureAddr, storeVar, Sem.run_bind, Sem.run, Result.andThen, pure, run_sizeOf q1, e2, q6, List.size_toArray, hlv, hz, ne_eq, not_true_eq_false, if_false, Nat.add_zero]
    simp only [hst]
  have htake : (putL (j.toNat * m) vs cur.toList).take (xs.length * m) = putL (j.toNat * m) vs us := by
    conv => lhs; rw [← List.take_append_drop (xs.length * m) cur.toList]
    rw [putL_append_left _ _ _ _ (by simp; omega), List.take_left' (by rw [length_putL _ _ _ (by simp; omega)]; simp; omega), c4]
  -- the parts of the array
  have hxs : xs = xs.take j.toNat ++ r :: xs.drop (j.toNat + 1) := by
    obtain ⟨hlt, rfl⟩ := List.getElem?_eq_some_iff.1 hrow.2
    rw [List.getElem_cons_drop, List.take_append_drop]
  have hxs2 : xs.set j.toNat l' = xs.take j.toNat ++ l' :: xs.drop (j.toNat + 1) := by rw [List.set_eq_take_append_cons_drop, if_pos hlt]
  have hsp : ∃ u1 u2 u4 b1 b2 b4, us = u1 ++ (u2 ++ u4) ∧ bs = b1 ++ (b2 ++ b4) ∧ VRs w (xs.take j.toNat).flatten u1 b1 ∧ VRs w r u2 b2 ∧ VRs w (xs.drop (j.toNat + 1)).flatten u4 b4 := by
    rw [hxs, List.flatten_append, List.flatten_cons] at o3
    obtain ⟨u1, u2, b1, b2, p1, p2, p3, p4⟩ := vrs_split o3
    obtain ⟨u3, u4, b3, b4, p5, p6, p7, p8⟩ := vrs_split p4
    have el : (xs.take j.toNat ++ r :: xs.drop (j.toNat + 1)).take j.toNat = xs.take j.toNat := by rw [← hxs]
    have er : (xs.take j.toNat ++ r :: xs.drop (j.toNat + 1)).drop (j.toNat + 1) = xs.drop (j.toNat + 1) := by rw [← hxs]
    exact ⟨u1, u3, u4, b1, b3, b4, by rw [p1, p5], by rw [p2, p6], p3, p7, p8⟩
  obtain ⟨u1, u2, u4, b1, b2, b4, hu, hbb, v1, v2, v4⟩ := hsp
  have hl1 : u1.length = j.toNat * m := by
    rw [v1.len, flatten_len (n := m) fun y hy => o2 y (List.mem_of_mem_take hy), List.length_take, Nat.min_eq_left (Nat.le_of_lt hlt)]
  have hl2 : u2.length = vs.length := by rw [v2.len, o2 r (List.mem_of_getElem? hrow.2), hlv, hle]
  have hpu : putL (j.toNat * m) vs us = u1 ++ (vs ++ u4) := by
    have := putL_append_right 0 vs u1 (u2 ++ u4)
    rw [hl1, Nat.add_zero] at this
    rw [hu, this, putL_splice 0 vs (u2 ++ u4) (by simp; omega)]
    simp only [List.take_zero, List.nil_append, Nat.zero_add]
    rw [← hl2, List.drop_left]
  have hsz : (xs.set j.toNat l').length = xs.length := List.length_set
  have hown : (w.setRow b (putL (j.toNat * m) vs cur.toList).toArray).ownsRow w0.heap.size T m e.v (xs.set j.toNat l').length (u1 ++ (vs ++ u4)) := by
    rw [hsz, ← hpu]
    refine ⟨by rw [length_putL _ _ _ (by omega)]; exact hl, Or.inr ⟨b, cap, (putL (j.toNat * m) vs cur.toList).toArray, hv, hg, setRow_heap w b cur _ T _ hh1, c1, c2, ?_, by simpa using htake⟩⟩
    simp [length_putL _ _ _ (show j.toNat * m + vs.length ≤ cur.toList.length by simp; omega), c3]
  have hself := owned_self hr.nodup hi
  rw [o5.1, hbb] at hself
  have hselfn := (List.nodup_append.1 hself).2.1
  have hin : ∀ k, k ∈ b1 ∨ k ∈ b4 → k ∈ e.nest := by
    intro k hk
    rw [o5.1, hbb]
    rcases hk with h | h
    · exact List.mem_append_left _ h
    · exact List.mem_append_right _ (List.mem_append_right _ h)
  have hdis : ∀ k, k ∈ e.nest → k ∈ nk → False := by
    intro k h h'
    obtain ⟨j', e', g1, g2, g3, _⟩ := hmem k h'
    have hne : i ≠ j' := by rintro rfl; rw [hci] at g1; exact Bool.noConfusion g1
    exact owned_disjoint hr.nodup hne hi g2 (List.mem_append_right _ h) g3
  obtain ⟨ms', hrel⟩ := hr.retake (c := fun q => memN q js') (w' := w.setRow b (putL (j.toNat * m) vs cur.toList).toArray) (xs' := xs.set j.toNat l') (us := u1 ++ (vs ++ u4)) (bs := b1 ++ (nk ++ b4)) hi hb hci htop (fun k hk => setRow_other w b k _ hk) (by simp [World.setRow]) (Ext_setRow _ hg) hown
    (fun r2 hr2 => by
      rcases List.mem_or_eq_of_mem_set hr2 with h | h
      · exact o2 r2 h
      · rw [h]; exact hll)
    (by rw [hxs2, List.flatten_append, List.flatten_cons]; exact v1.append (h2.append v4))
    (by
      rw [List.nodup_append] at hselfn ⊢
      have h24 := (List.nodup_append.1 hselfn.2.1)
      refine ⟨hselfn.1, List.nodup_append.2 ⟨hnn, h24.2.1, fun p hp q hq h => ?_⟩, fun p hp q hq h => ?_⟩
      · subst h; exact hdis p (hin p (Or.inr hq)) hp
      · subst h
        rcases List.mem_append.1 hq with hq | hq
        · exact hdis p (hin p (Or.inl hp)) hq
        · exact hselfn.2.2 p hp p (List.mem_append_right _ hq) rfl)
    (fun k hk => by
      rcases List.mem_append.1 hk with h | h
      · exact Or.inl (hin k (Or.inl h))
      · rcases List.mem_append.1 h with h | h
        · obtain ⟨j', e', g1, g2, g3, _⟩ := hmem k h
          exact Or.inr ⟨j', e', g1, g2, g3⟩
        · exact Or.inl (hin k (Or.inr h)))
    (fun k hk => by
      rcases List.mem_append.1 hk with h | h
      · exact o5.2 k (by rw [← o5.1]; exact hin k (Or.inl h))
      · rcases List.mem_append.1 h with h | h
        · obtain ⟨_, _, _, _, _, hu⟩ := hmem k h; exact hu
        · exact o5.2 k (by rw [← o5.1]; exact hin k (Or.inr h)))
  have hs' := killK_eq hs; have hh' := newK_eq hh
  simp only [Option.some.injEq] at hs' hh'
  subst hs'; subst hh'
  exact upon_skip hrun (hKn _ _ (hK.run _ _ _ (Rel.put hrel (.tup (us := []) .nil) (dstOk_all hd)) Q hq))
end
end Go.Proofs.Ytcbfpeplcbgpjaa
namespace Go.Proofs.Ytcbfpeplcbgpjaa
open Go.ChangeShapes Go.WideShapes Go.ChangeAt Go.RowKit

set_option maxHeartbeats 4000000 in
theorem specRemovePlace_f (s : Stg) (p : Int) (hz : szStg s ≤ 1048576) : Fn Try.prog 36 [.agg (dStg s), .lit (.int .i64 p)] (.tup [.agg [.lit (.int .i64 (rmR s p).net.places), .own 0, .own 1, .own 2, .lit (.string (rmR s p).start)], .lit (.bool (rmB s p))]) [.arr 88 2 ((rmR s p).net.trs.map dTr) true, .arr 132 2 ((rmR s p).signals.map dSig) true, .arr 105 2 ((rmR s p).labels.map dLab) true] := by
  refine Fn_ofC tabOk Try.func36 rfl (by kernel_rfl) rfl rfl ?_
  intro w0 A hin
  have hp64 := given_int hin (i := 1) rfl
  have hzs := len_dSig s.signals
  have hzl := len_dLab s.labels
  have hst : s.start.size ≤ 1048576 := by have := start_le s; omega
  have hV := l2Good_f s hst
  cases hg : goodStg s <;> rw [hg] at hV
  · have hb : rmB s p = false := by simp [rmB, hg]
    have hr := rmR_no hb
    repeat' (first | refine goZ ?_ | refine R_callZ rfl (hV) rfl rfl rfl ?_ | refine R_callvZ rfl (hV) rfl rfl rfl rfl ?_ | refine D_callZ rfl (hV) rfl rfl rfl ?_ | ((first | refine R_cond rfl (fun hq => ?_) fun hq => ?_ | refine R_guardT rfl rfl rfl (fun hq => ?_) fun hq => ?_ | refine R_guardF rfl rfl rfl (fun hq => ?_) fun hq => ?_ | refine D_guardT rfl rfl rfl (fun hq => ?_) fun hq => ?_ | refine D_guardF rfl rfl rfl (fun hq => ?_) fun hq => ?_) <;> (try rw [hq]) <;> first | have hp := of_decide_eq_true hq | have hp := of_decide_eq_false hq | have hp := of_decide_eq_false (not_t hq) | have hp := of_decide_eq_true (not_f hq) | have hp := hq))
    all_goals exact .r (retC_nil3t rfl (by rw [hr]; rfl) (by rw [hr]; rfl) (by rw [hb]) (by rw [hr]; rfl) (by rw [hr]; rfl) (by rw [hr]; rfl))
  obtain ⟨hN, hs1, hs2, _⟩ := stg_ok hg hz
  have hgl := goodStg_len hg
  have hI := l1In_f p 0 (s.net.places - 1)
  cases hm : decide (0 ≤ p ∧ p ≤ s.net.places - 1) <;> rw [hm] at hI
  · have hb : rmB s p = false := by
      have hn : ¬ p ∈ unuL s := fun h => by
        have := ((unu_mem hg p).1 h).1
        exact of_decide_eq_false hm ⟨this.1, by omega⟩
      simp [rmB, hn]
    have hr := rmR_no hb
    repeat' (first | refine goZ ?_ | refine R_callZ rfl (hV) rfl rfl rfl ?_ | refine R_callZ rfl (hI) rfl rfl rfl ?_ | refine R_callvZ rfl (hV) rfl rfl rfl rfl ?_ | refine R_callvZ rfl (hI) rfl rfl rfl rfl ?_ | refine D_callZ rfl (hV) rfl rfl rfl ?_ | refine D_callZ rfl (hI) rfl rfl rfl ?_ | ((first | refine R_cond rfl (fun hq => ?_) fun hq => ?_ | refine R_guardT rfl rfl rfl (fun hq => ?_) fun hq => ?_ | refine R_guardF rfl rfl rfl (fun hq => ?_) fun hq => ?_ | refine D_guardT rfl rfl rfl (fun hq => ?_) fun hq => ?_ | refine D_guardF rfl rfl rfl (fun hq => ?_) fun hq => ?_) <;> (try rw [hq]) <;> first | have hp := of_decide_eq_true hq | have hp := of_decide_eq_false hq | have hp := of_decide_eq_false (not_t hq) | have hp := of_decide_eq_true (not_f hq) | have hp := hq))
    all_goals exact .r (retC_nil3t rfl (by rw [hr]; rfl) (by rw [hr]; rfl) (by rw [hb]) (by rw [hr]; rfl) (by rw [hr]; rfl) (by rw [hr]; rfl))
  have hm' := of_decide_eq_true hm
  have hU := l3Unused_f s p.toNat (by omega)
  rw [show ((p.toNat : Nat) : Int) = p by omega] at hU
  have hmu : p ∈ unuL s ↔ unuP s p.toNat = true := by
    rw [unu_mem hg]
    exact ⟨fun h => h.2, fun h => ⟨⟨by omega, by omega⟩, h⟩⟩
  cases hu : unuP s p.toNat <;> rw [hu] at hU
  · have hb : rmB s p = false := by
      have hn : ¬ p ∈ unuL s := fun h => by rw [hmu, hu] at h; exact Bool.noConfusion h
      simp [rmB, hn]
    have hr := rmR_no hb
    repeat' (first | refine goZ ?_ | refine R_callZ rfl (hV) rfl rfl rfl ?_ | refine R_callZ rfl (hI) rfl rfl rfl ?_ | refine R_callZ rfl (hU) rfl rfl rfl ?_ | refine R_callvZ rfl (hV) rfl rfl rfl rfl ?_ | refine R_callvZ rfl (hI) rfl rfl rfl rfl ?_ | refine R_callvZ rfl (hU) rfl rfl rfl rfl ?_ | refine D_callZ rfl (hV) rfl rfl rfl ?_ | refine D_callZ rfl (hI) rfl rfl rfl ?_ | refine D_callZ rfl (hU) rfl rfl rfl ?_ | ((first | refine R_cond rfl (fun hq => ?_) fun hq => ?_ | refine R_guardT rfl rfl rfl (fun hq => ?_) fun hq => ?_ | refine R_guardF rfl rfl rfl (fun hq => ?_) fun hq => ?_ | refine D_guardT rfl rfl rfl (fun hq => ?_) fun hq => ?_ | refine D_guardF rfl rfl rfl (fun hq => ?_) fun hq => ?_) <;> (try rw [hq]) <;> first | have hp := of_decide_eq_true hq | have hp := of_decide_eq_false hq | have hp := of_decide_eq_false (not_t hq) | have hp := of_decide_eq_true (not_f hq) | have hp := hq))
    all_goals exact .r (retC_nil3t rfl (by rw [hr]; rfl) (by rw [hr]; rfl) (by rw [hb]) (by rw [hr]; rfl) (by rw [hr]; rfl) (by rw [hr]; rfl))
  cases h2 : decide (2 ≤ s.net.places)
  · have hb : rmB s p = false := by simp [rmB, h2]
    have hr := rmR_no hb
    have h2' := of_decide_eq_false h2
    repeat' (first | refine goZ ?_ | refine R_callZ rfl (hV) rfl rfl rfl ?_ | refine R_callZ rfl (hI) rfl rfl rfl ?_ | refine R_callZ rfl (hU) rfl rfl rfl ?_ | refine R_callvZ rfl (hV) rfl rfl rfl rfl ?_ | refine R_callvZ rfl (hI) rfl rfl rfl rfl ?_ | refine R_callvZ rfl (hU) rfl rfl rfl rfl ?_ | refine D_callZ rfl (hV) rfl rfl rfl ?_ | refine D_callZ rfl (hI) rfl rfl rfl ?_ | refine D_callZ rfl (hU) rfl rfl rfl ?_ | ((first | refine R_cond rfl (fun hq => ?_) fun hq => ?_ | refine R_guardT rfl rfl rfl (fun hq => ?_) fun hq => ?_ | refine R_guardF rfl rfl rfl (fun hq => ?_) fun hq => ?_ | refine D_guardT rfl rfl rfl (fun hq => ?_) fun hq => ?_ | refine D_guardF rfl rfl rfl (fun hq => ?_) fun hq => ?_) <;> (try rw [hq]) <;> first | have hp := of_decide_eq_true hq | have hp := of_decide_eq_false hq | have hp := of_decide_eq_false (not_t hq) | have hp := of_decide_eq_true (not_f hq) | have hp := hq))
    all_goals first
      | exact .r (retC_nil3t rfl (by rw [hr]; rfl) (by rw [hr]; rfl) (by rw [hb]) (by rw [hr]; rfl) (by rw [hr]; rfl) (by rw [hr]; rfl))
      | (exfalso; omega)
  have hb : rmB s p = true := by simp [rmB, hg, hmu.2 hu, h2]
  have hr := rmR_yes hb
  have h2' := of_decide_eq_true h2
  have hpl := hN.places
  have hss : (s.start.size : Int) = s.net.places := by
    have h' := hg
    simp only [goodStg, goodMark, bitsB, Bool.and_eq_true, decide_eq_true_eq] at h'
    omega
  have hx1 : (s.start.extract 0 p.toNat).size ≤ 1048576 := by rw [ByteArray.size_extract]; omega
  have hx2 : (s.start.extract (p + 1).toNat s.start.size).size ≤ 1048576 := by rw [ByteArray.size_extract]; omega
  have hzt := len_dTr s.net.trs
  repeat' (first | refine W_drawTS mixed tabOk rfl rfl rfl ?_ | refine go1 ?_ | refine R_callZ rfl (hV) rfl rfl rfl ?_ | refine R_callZ rfl (hI) rfl rfl rfl ?_ | refine R_callZ rfl (hU) rfl rfl rfl ?_ | refine R_callZ rfl (l2Own_f s hN hs1 hs2) rfl rfl rfl ?_ | refine R_callvZ rfl (hV) rfl rfl rfl rfl ?_ | refine R_callvZ rfl (hI) rfl rfl rfl rfl ?_ | refine R_callvZ rfl (hU) rfl rfl rfl rfl ?_ | refine R_callvZ rfl (l2Own_f s hN hs1 hs2) rfl rfl rfl rfl ?_ | refine D_callZ rfl (hV) rfl rfl rfl ?_ | refine D_callZ rfl (hI) rfl rfl rfl ?_ | refine D_callZ rfl (hU) rfl rfl rfl ?_ | refine D_callZ rfl (l2Own_f s hN hs1 hs2) rfl rfl rfl ?_ | ((first | refine R_cond rfl (fun hq => ?_) fun hq => ?_ | refine R_guardT rfl rfl rfl (fun hq => ?_) fun hq => ?_ | refine R_guardF rfl rfl rfl (fun hq => ?_) fun hq => ?_ | refine D_guardT rfl rfl rfl (fun hq => ?_) fun hq => ?_ | refine D_guardF rfl rfl rfl (fun hq => ?_) fun hq => ?_) <;> (try rw [hq]) <;> first | have hp := of_decide_eq_true hq | have hp := of_decide_eq_false hq | have hp := of_decide_eq_false (not_t hq) | have hp := of_decide_eq_true (not_f hq) | have hp := hq))
  · exfalso; simp_all; omega
  refine W_loop (fun t : Nat => ⟨_, [(1, .lit (.int .i64 p)), (2, .ptr 0 0), (4, .ptr 1 0), (6, .ptr 5 0), (55, .sh 2 (s.net.trs.map dTr)), (56, .lit (.int .i64 s.net.trs.length)), (57, .lit (.int .i64 t))], [.cells 69 (dStg s), .cells 69 [.lit (.int .i64 0), .nil, .nil, .nil, .lit (.string ByteArray.empty)], .arr 88 2 ((upR (lessT p) s.net.trs t).map dTr) true, .arr 132 2 (s.signals.map dSig) true, .arr 105 2 (s.labels.map dLab) true, .cells 69 [.lit (.int .i64 (s.net.places - 1)), .own 2, .own 3, .own 4, .lit (.string (s.start.extract 0 p.toNat ++ s.start.extract (p + 1).toNat s.start.size))]]⟩) (fun t => t ≤ s.net.trs.length) (fun t => s.net.trs.length - t) 0 (Nat.zero_le _) (by rw [upR_zero]; exact weakZ []) ?_
  intro t ht
  have hNl := hN.len
  have hul := upR_len (lessT p) s.net.trs t
  have hzu := len_dTr (upR (lessT p) s.net.trs t)
  have hL1 : t < s.net.trs.length → _ := fun h => l3Less_f (nth s.net.trs t).pre p (by have := hN.row _ (nth_mem h); omega) (fun x hx => by have := (hN.row _ (nth_mem h)).2.1 x hx; omega)
  have hL2 : t < s.net.trs.length → _ := fun h => l3Less_f (nth s.net.trs t).post p (by have := hN.row _ (nth_mem h); omega) (fun x hx => by have := (hN.row _ (nth_mem h)).2.2 x hx; omega)
  repeat' (first | refine W_drawTS mixed tabOk rfl rfl rfl ?_ | refine go1 ?_ | refine R_callZ rfl (hL1 (by omega)) rfl rfl rfl ?_ | refine R_callZ rfl (hL2 (by omega)) rfl rfl rfl ?_ | refine R_callvZ rfl (hL1 (by omega)) rfl rfl rfl rfl ?_ | refine R_callvZ rfl (hL2 (by omega)) rfl rfl rfl rfl ?_ | refine R_estoreAbs tabOk rfl rfl rfl rfl rfl rfl rfl (rowAt_nat (by omega)) rfl (setAt_nat (v := lessT p (nth s.net.trs t)) rfl) rfl rfl rfl ?_ | refine D_callZ rfl (hL1 (by omega)) rfl rfl rfl ?_ | refine D_callZ rfl (hL2 (by omega)) rfl rfl rfl ?_ | ((first | refine R_cond rfl (fun hq => ?_) fun hq => ?_ | refine R_guardT rfl rfl rfl (fun hq => ?_) fun hq => ?_ | refine R_guardF rfl rfl rfl (fun hq => ?_) fun hq => ?_ | refine D_guardT rfl rfl rfl (fun hq => ?_) fun hq => ?_ | refine D_guardF rfl rfl rfl (fun hq => ?_) fun hq => ?_) <;> (try rw [hq]) <;> first | have hp := of_decide_eq_true hq | have hp := of_decide_eq_false hq | have hp := of_decide_eq_false (not_t hq) | have hp := of_decide_eq_true (not_f hq) | have hp := hq))
  · refine ⟨t + 1, by omega, by omega, ?_⟩
    rw [← upR_step (f := lessT p) (show t < s.net.trs.length by omega) (y := lessT p (nth s.net.trs t)) rfl]
    exact weakZ _
  · have et : t = s.net.trs.length := by omega
    subst et
    exact .r (retC_own3t rfl rfl rfl rfl (by simp) (by rw [hr]; try rfl) (by rw [hr]; try rfl) (by rw [hb]) (by rw [hr, upR_all]; try rfl) (by rw [hr]; try rfl) (by rw [hr]; try rfl))

theorem cntTrs_less (p : Int) (l : List Tr) : cntTrs (l.map (lessT p)) = cntTrs l := by
  induction l with
  | nil => rfl
  | cons x l ih => simp [cntTrs, lessT] at ih ⊢; omega
theorem rmR_le (s : Stg) (p : Int) : ((cntTrs (rmR s p).net.trs ≤ szStg s ∧ (rmR s p).net.trs.length ≤ 24) ∧ (rmR s p).signals.length ≤ 8 ∧ (rmR s p).labels.length ≤ 24) ∧ -9223372036854775808 ≤ (rmR s p).net.places ∧ (rmR s p).net.places ≤ 9223372036854775807 := by
  cases hb : rmB s p
  · rw [rmR_no hb]; simp [noStg, cntTrs]
  · rw [rmR_yes hb]
    simp only [rmB, Bool.and_eq_true] at hb
    have h := stg_le (s := s) (t := s) hb.1 rfl rfl rfl
    have hp := goodStg_len hb.1
    refine ⟨⟨⟨?_, ?_⟩, h.1.2⟩, ?_⟩
    · simp only [rmS]; rw [cntTrs_less]; exact h.1.1.1
    · simp only [rmS, List.length_map]; exact h.1.1.2
    · simp only [rmS]; omega
end Go.Proofs.Ytcbfpeplcbgpjaa
