/- Symbolic states: append. No condition. -/
import Derived.Test.YtidfmgahnmpcdaaAbsJ
import Derived.Maps.AppendAt
import Derived.Laws.OwnMore
set_option linter.unusedSimpArgs false
set_option linter.unusedVariables false
namespace Go.Proofs.Ytidfmgahnmpcdaa
open Go.ChangeShapes Go.WideShapes Go.ChangeAt Go.RowKit

/-! ### Values that name an entry are struck -/
mutual
def D.hits (p : Nat → Bool) : D → Bool
  | .own i => p i
  | .vec i _ => p i
  | .ptr i _ => p i
  | .eptr i _ _ _ => p i
  | .agg ds => D.hitsL p ds
  | .tup ds => D.hitsL p ds
  | .fn _ ds => D.hitsL p ds
  | _ => false
def D.hitsL (p : Nat → Bool) : List D → Bool
  | [] => false
  | d :: ds => match d.hits p with | true => true | false => D.hitsL p ds
end
mutual
theorem D.hits_uses {p : Nat → Bool} : ∀ {d : D} {i : Nat}, d.hits p = false → p i = true → d.uses i = false
  | .no, _, _, _ => rfl
  | .lit _, _, _, _ => rfl
  | .nil, _, _, _ => rfl
  | .sh _ _, _, _, _ => rfl
  | .sptr _, _, _, _ => rfl
  | .old _ _ _, _, _, _ => rfl
  | .val _, _, _, _ => rfl
  | .own j, i, h, hp => by simp only [D.hits] at h; simp only [D.uses, beq_eq_false_iff_ne]; rintro rfl; rw [hp] at h; exact Bool.noConfusion h
  | .vec j _, i, h, hp => by simp only [D.hits] at h; simp only [D.uses, beq_eq_false_iff_ne]; rintro rfl; rw [hp] at h; exact Bool.noConfusion h
  | .ptr j _, i, h, hp => by simp only [D.hits] at h; simp only [D.uses, beq_eq_false_iff_ne]; rintro rfl; rw [hp] at h; exact Bool.noConfusion h
  | .eptr j _ _ _, i, h, hp => by simp only [D.hits] at h; simp only [D.uses, beq_eq_false_iff_ne]; rintro rfl; rw [hp] at h; exact Bool.noConfusion h
  | .agg ds, i, h, hp => by rw [D.hits] at h; rw [D.uses]; exact D.hitsL_uses h hp
  | .tup ds, i, h, hp => by rw [D.hits] at h; rw [D.uses]; exact D.hitsL_uses h hp
  | .fn _ ds, i, h, hp => by rw [D.hits] at h; rw [D.uses]; exact D.hitsL_uses h hp
theorem D.hitsL_uses {p : Nat → Bool} : ∀ {ds : List D} {i : Nat}, D.hitsL p ds = false → p i = true → D.usesL i ds = false
  | [], _, _, _ => rfl
  | d :: ds, i, h, hp => by
    rw [D.hitsL] at h
    cases hd : d.hits p
    · rw [hd] at h
      rw [D.usesL, D.hits_uses hd hp, D.hitsL_uses h hp]; rfl
    · rw [hd] at h; exact Bool.noConfusion h
end
def D.kill (p : Nat → Bool) (d : D) : D := match d.hits p with | true => .no | false => d
def forceN {α : Type} : D → (D → Option α) → Option α
  | .no, k => k .no
  | d, k => forceK d k
theorem forceN_eq {α : Type} {d : D} {k : D → Option α} {r : α} (h : forceN d k = some r) : k d = some r := by cases d <;> first | exact h | exact forceK_eq h
def killK {α : Type} (p : Nat → Bool) : List (Nat × D) → (List (Nat × D) → Option α) → Option α
  | [], k => k []
  | (t, d) :: l, k => forceN (d.kill p) fun d' => killK p l fun l' => k ((t, d') :: l')
def killS (p : Nat → Bool) : List (Nat × D) → List (Nat × D)
  | [] => []
  | (t, d) :: l => (t, d.kill p) :: killS p l
theorem killK_eq {α : Type} {p : Nat → Bool} : ∀ {l : List (Nat × D)} {k : List (Nat × D) → Option α} {r : α}, killK p l k = some r → k (killS p l) = some r
  | [], _, _, h => h
  | (_, _) :: _, _, _, h => by
    have := killK_eq (forceN_eq h)
    exact this
def killD (p : Nat → Bool) : List D → List D
  | [] => []
  | d :: l => d.kill p :: killD p l
def killDK {α : Type} (p : Nat → Bool) : List D → (List D → Option α) → Option α
  | [], k => k []
  | d :: l, k => forceN (d.kill p) fun d' => killDK p l fun l' => k (d' :: l')
theorem killDK_eq {α : Type} {p : Nat → Bool} : ∀ {l : List D} {k : List D → Option α} {r : α}, killDK p l k = some r → k (killD p l) = some r
  | [], _, _, h => h
  | d :: _, k, _, h => killDK_eq (k := fun l' => k (d.kill p :: l')) (forceN_eq h)
def Blk.kill (p : Nat → Bool) : Blk → Blk
  | .cells t ds => .cells t (killD p ds)
  | b => b
/-- The memory, entry i anew, the entries that c names given away, what names either struck. -/
def newH (p c : Nat → Bool) (i : Nat) (b' : Blk) : Nat → List Blk → List Blk
  | _, [] => []
  | j, b :: l => (match Nat.beq j i with | true => b' | false => match c j with | true => .gone | false => b.kill p) :: newH p c i b' (j + 1) l
def newK {α : Type} (p c : Nat → Bool) (i : Nat) (b' : Blk) : Nat → List Blk → (List Blk → Option α) → Option α
  | _, [], k => k []
  | j, b :: l, k => match Nat.beq j i with
    | true => newK p c i b' (j + 1) l fun l' => k (b' :: l')
    | false => match c j with
      | true => newK p c i b' (j + 1) l fun l' => k (.gone :: l')
      | false => match b with
        | .cells t ds => killDK p ds fun ds' => newK p c i b' (j + 1) l fun l' => k (.cells t ds' :: l')
        | .gone => newK p c i b' (j + 1) l fun l' => k (.gone :: l')
        | .arr t n xs dp => newK p c i b' (j + 1) l fun l' => k (.arr t n xs dp :: l')
        | .fr n xs => newK p c i b' (j + 1) l fun l' => k (.fr n xs :: l')
        | .cust R => newK p c i b' (j + 1) l fun l' => k (.cust R :: l')
theorem newK_eq {α : Type} {p c : Nat → Bool} {i : Nat} {b' : Blk} : ∀ {l : List Blk} {j : Nat} {k : List Blk → Option α} {r : α}, newK p c i b' j l k = some r → k (newH p c i b' j l) = some r
  | [], _, _, _, h => h
  | b :: l, j, k, r, h => by
    unfold newK at h
    rw [newH]
    cases hb : Nat.beq j i <;> simp only [hb] at h
    · cases hc : c j <;> simp only [hc] at h
      · cases b with
        | cells t ds => exact newK_eq (killDK_eq (k := fun ds' => newK p c i b' (j + 1) l fun l' => k (.cells t ds' :: l')) h)
        | gone => exact newK_eq h
        | arr t n xs dp => exact newK_eq h
        | fr n xs => exact newK_eq h
        | cust R => exact newK_eq h
      · exact newK_eq h
    · exact newK_eq h
theorem newH_get {p c : Nat → Bool} {i : Nat} {b' : Blk} : ∀ {l : List Blk} {j m : Nat}, (newH p c i b' j l)[m]? = (l[m]?).map fun b => if j + m = i then b' else if c (j + m) then .gone else b.kill p
  | [], _, _ => by simp [newH]
  | b :: l, j, 0 => by
    simp only [newH, List.getElem?_cons_zero, Option.map_some, Nat.add_zero, Option.some.injEq]
    cases hb : Nat.beq j i
    · rw [if_neg (Nat.ne_of_beq_eq_false hb)]; cases c j <;> rfl
    · rw [if_pos (Nat.eq_of_beq_eq_true hb)]
  | b :: l, j, m + 1 => by
    simp only [newH, List.getElem?_cons_succ]
    rw [newH_get, show j + 1 + m = j + (m + 1) by omega]
theorem newH_len {p c : Nat → Bool} {i : Nat} {b' : Blk} : ∀ {l : List Blk} {j : Nat}, (newH p c i b' j l).length = l.length
  | [], _ => rfl
  | _ :: l, j => by simp [newH, newH_len]

section
variable {P : Program} {w0 w w' : World} {A : Nat → Prop} {n : Nat} {sl : List (Nat × D)} {hp : List Blk} {ms ms' : List Ent} {a : Act}

theorem owned_nodup_of (h1 : ∀ (i : Nat) (e : Ent), ms[i]? = some e → (e.top.toList ++ e.nest).Nodup) (h2 : ∀ (i j : Nat) (e e' : Ent) (k : Nat), i ≠ j → ms[i]? = some e → ms[j]? = some e' → k ∈ e.top.toList ++ e.nest → k ∈ e'.top.toList ++ e'.nest → False) : (owned ms).Nodup := by
  unfold owned
  rw [List.nodup_iff_pairwise_ne, List.pairwise_flatMap]
  refine ⟨fun e he => ?_, ?_⟩
  · obtain ⟨i, hi, rfl⟩ := List.getElem_of_mem he
    exact List.nodup_iff_pairwise_ne.1 (h1 i _ (List.getElem?_eq_getElem hi))
  · rw [List.pairwise_iff_getElem]
    intro i j hi hj hij k hk k' hk' e
    subst e
    exact h2 i j _ _ k (by omega) (List.getElem?_eq_getElem hi) (List.getElem?_eq_getElem hj) hk hk'

theorem mem_owned {k : Nat} (h : k ∈ owned ms) : ∃ (i : Nat) (e : Ent), ms[i]? = some e ∧ k ∈ e.top.toList ++ e.nest := by
  simp only [owned, List.mem_flatMap] at h
  obtain ⟨e, he, hk⟩ := h
  obtain ⟨i, hi, rfl⟩ := List.getElem_of_mem he
  exact ⟨i, _, List.getElem?_eq_getElem hi, hk⟩
theorem mem_tops {k : Nat} (h : k ∈ tops ms) : ∃ (i : Nat) (e : Ent), ms[i]? = some e ∧ e.top = some k := by
  simp only [tops, List.mem_filterMap] at h
  obtain ⟨e, he, hk⟩ := h
  obtain ⟨i, hi, rfl⟩ := List.getElem_of_mem he
  exact ⟨i, _, List.getElem?_eq_getElem hi, hk⟩
theorem tops_mem {i : Nat} {e : Ent} {k : Nat} (h : ms[i]? = some e) (hk : e.top = some k) : k ∈ tops ms := by
  simp only [tops, List.mem_filterMap]; exact ⟨e, List.mem_of_getElem? h, hk⟩

theorem kill_mono {p : Nat → Bool} {Ok Ok' : Nat → Prop} (hk : ∀ k, Ok k → w'.heap[k]? = w.heap[k]? ∧ Ok' k) (hm : ∀ (i : Nat) (e : Ent), p i = false → ms[i]? = some e → ms'[i]? = some e) {d : D} {u : Value} (h : VX ms w Ok d u) : VX ms' w' Ok' (d.kill p) u := by
  unfold D.kill
  cases hd : d.hits p
  · refine VX.mono hk h fun i e hu hi => hm i e ?_ hi
    cases hpi : p i
    · rfl
    · rw [D.hits_uses hd hpi] at hu; exact Bool.noConfusion hu
  · exact .no
theorem killD_mono {p : Nat → Bool} {Ok Ok' : Nat → Prop} (hk : ∀ k, Ok k → w'.heap[k]? = w.heap[k]? ∧ Ok' k) (hm : ∀ (i : Nat) (e : Ent), p i = false → ms[i]? = some e → ms'[i]? = some e) : ∀ {ds : List D} {us : List Value}, VXs ms w Ok ds us → VXs ms' w' Ok' (killD p ds) us
  | _, _, .nil => .nil
  | _, _, .cons h h' => .cons (kill_mono hk hm h) (killD_mono hk hm h')
theorem look_kill {p : Nat → Bool} {t : Nat} : ∀ {l : List (Nat × D)}, look (killS p l) t = (look l t).kill p ∨ look (killS p l) t = .no
  | [] => Or.inr rfl
  | (t', d) :: l => by
    simp only [killS, look]
    split
    · exact Or.inl rfl
    · exact look_kill

/-- The arrays i grown by the elements ys that lie at u; c names the entries whose elements were handed over; 'nk': the blocks behind those. -/
theorem Rel.regrown (hr : Rel w0 A ms ⟨n, sl, hp⟩ a w) {p c : Nat → Bool} {i : Nat} {e : Ent} {T : TypeId} {m : Nat} {xs ys : List (List D)} {di : Bool} {v' : Value} {us : List Value} {bs nk : List Nat}
    (hi : ms[i]? = some e) (hb : hp[i]? = some (.arr T m xs di)) (hci : c i = false) (hp_i : p i = true) (hpc : ∀ j, c j = true → p j = true)
    (hg : w.grownBy w' e.v.ownBlock) (hown : w'.ownsRow w0.heap.size T m v' (xs ++ ys).length us) (hrow : ∀ r ∈ xs ++ ys, r.length = m) (hv : VRs w (xs ++ ys).flatten us bs)
    (hat : v'.ownBlock = e.v.ownBlock ∨ v'.ownBlock = some w.heap.size) (hlt : ∀ k, v'.ownBlock = some k → k < w'.heap.size)
    (hnk : ∀ k ∈ nk, ∃ (j : Nat) (e' : Ent), c j = true ∧ ms[j]? = some e' ∧ k ∈ e'.top.toList ++ e'.nest) (hnn : nk.Nodup) {d' : Bool} (hd : (d' = true ∧ di = true ∧ bs = e.nest ++ nk ∧ ∀ k ∈ nk, Un w k) ∨ (d' = false ∧ ∀ k ∈ bs, OkB w0.heap.size A ms w k ∧ some k ≠ e.v.ownBlock)) :
    ∃ ms', Rel w0 A ms' ⟨n, killS p sl, newH p c i (.arr T m (xs ++ ys) d') 0 hp⟩ a w' ∧ ∃ e', ms'[i]? = some e' ∧ e'.v = v' := by
  obtain ⟨us0, bs0, o1, o2, o3, htop, o5⟩ := hr.ents i _ e hb hi
  have hbase := hr.ext.size
  let e' : Ent := ⟨v', v'.ownBlock, if d' then e.nest ++ nk else []⟩
  let F : Nat → Ent → Ent := fun j x => if j = i then e' else if c j then ⟨x.v, none, []⟩ else x
  have hget : ∀ j, (ms.mapIdx F)[j]? = (ms[j]?).map (F j) := fun j => by rw [List.getElem?_mapIdx]
  have hFi : ∀ x, F i x = e' := fun x => if_pos rfl
  have hFc : ∀ j x, j ≠ i → c j = true → F j x = ⟨x.v, none, []⟩ := fun j x h1 h2 => by simp only [F, if_neg h1, h2, if_true]
  have hFo : ∀ j x, j ≠ i → c j = false → F j x = x := fun j x h1 h2 => by simp only [F, if_neg h1, h2]; rfl
  have hin : ∀ k ∈ owned ms, w0.heap.size ≤ k ∧ k < w.heap.size := hr.range
  have htopi : ∀ j x k, ms[j]? = some x → j ≠ i → k ∈ x.top.toList ++ x.nest → some k ≠ e.v.ownBlock := by
    intro j x k hj hji hk h
    exact owned_disjoint hr.nodup hji hj hi hk (by rw [htop, ← h]; simp)
  have hnesti : ∀ k ∈ e.nest, some k ≠ e.v.ownBlock := by
    intro k hk h
    have := owned_self hr.nodup hi
    rw [htop, ← h] at this
    simp at this
    exact this.1 hk
  -- what the new places own
  have hcl : ∀ j x k, (ms.mapIdx F)[j]? = some x → k ∈ x.top.toList ++ x.nest → (j = i ∧ k = w.heap.size ∧ v'.ownBlock = some k) ∨ ∃ j' x', ms[j']? = some x' ∧ k ∈ x'.top.toList ++ x'.nest ∧ ((j' = j ∧ (j = i ∨ c j = false)) ∨ (j = i ∧ c j' = true)) := by
    intro j x k hj hk
    rw [hget] at hj
    obtain ⟨x0, h1, rfl⟩ := Option.map_eq_some_iff.1 hj
    by_cases hji : j = i
    · subst hji
      rw [hi] at h1; cases h1
      rw [hFi] at hk
      simp only [e', List.mem_append] at hk
      rcases hk with hk | hk
      · have hk : v'.ownBlock = some k := by simpa using hk
        rcases hat with h | h
        · exact Or.inr ⟨j, e, hi, by rw [htop, ← h, hk]; simp, Or.inl ⟨rfl, Or.inl rfl⟩⟩
        · rw [h] at hk; cases hk; exact Or.inl ⟨rfl, rfl, h⟩
      · cases d' with
        | false => simp at hk
        | true =>
          simp only [if_true, List.mem_append] at hk
          rcases hk with hk | hk
          · exact Or.inr ⟨j, e, hi, List.mem_append_right _ hk, Or.inl ⟨rfl, Or.inl rfl⟩⟩
          · obtain ⟨j', x', h2, h3, h4⟩ := hnk k hk
            exact Or.inr ⟨j', x', h3, h4, Or.inr ⟨rfl, h2⟩⟩
    · cases hc : c j
      · rw [hFo j _ hji hc] at hk
        exact Or.inr ⟨j, x0, h1, hk, Or.inl ⟨rfl, Or.inr rfl⟩⟩
      · rw [hFc j _ hji hc] at hk
        simp at hk
  have hnd : (owned (ms.mapIdx F)).Nodup := by
    refine owned_nodup_of ?_ ?_
    · intro j x hj
      rw [hget] at hj
      obtain ⟨x0, h1, rfl⟩ := Option.map_eq_some_iff.1 hj
      by_cases hji : j = i
      · subst hji
        rw [hi] at h1; cases h1
        rw [hFi]
        have hs := owned_self hr.nodup hi
        rw [List.nodup_append] at hs
        have hnn' : (if d' then e.nest ++ nk else []).Nodup := by
          cases d' with
          | false => simp
          | true =>
            simp only [if_true]
            refine List.nodup_append.2 ⟨hs.2.1, hnn, fun p hp q hq e2 => ?_⟩
            subst e2
            obtain ⟨j', x', h2, h3, h4⟩ := hnk p hq
            have hne : j ≠ j' := by rintro rfl; rw [h2] at hci; exact Bool.noConfusion hci
            exact owned_disjoint hr.nodup hne hi h3 (List.mem_append_right _ hp) h4
        refine List.nodup_append.2 ⟨by show v'.ownBlock.toList.Nodup; cases v'.ownBlock <;> simp, hnn', fun p hp q hq e2 => ?_⟩
        subst e2
        have hp : v'.ownBlock = some p := by have h : p ∈ v'.ownBlock.toList := hp; simpa using h
        have hq : p ∈ (if d' then e.nest ++ nk else []) := hq
        have hq' : p < w.heap.size ∧ some p ≠ e.v.ownBlock := by
          cases d' with
          | false => simp at hq
          | true =>
            simp only [if_true, List.mem_append] at hq
            rcases hq with hq | hq
            · exact ⟨(hin p (ent_owned hi (List.mem_append_right _ hq))).2, hnesti p hq⟩
            · obtain ⟨j', x', h2, h3, h4⟩ := hnk p hq
              have hne : j' ≠ j := by rintro rfl; rw [h2] at hci; exact Bool.noConfusion hci
              exact ⟨(hin p (ent_owned h3 h4)).2, htopi j' x' p h3 hne h4⟩
        rcases hat with h | h
        · exact hq'.2 (by rw [← h, hp])
        · rw [h] at hp; cases hp; omega
      · cases hc : c j
        · rw [hFo j _ hji hc]; exact owned_self hr.nodup h1
        · rw [hFc j _ hji hc]; simp
    · intro j1 j2 x1 x2 k hne h1 h2 hk1 hk2
      rcases hcl j1 x1 k h1 hk1 with ⟨a1, a2, a3⟩ | ⟨i1, y1, a1, a2, a3⟩ <;> rcases hcl j2 x2 k h2 hk2 with ⟨b1, b2, b3⟩ | ⟨i2, y2, b1, b2, b3⟩
      · exact hne (a1.trans b1.symm)
      · have := (hin k (ent_owned b1 b2)).2; omega
      · have := (hin k (ent_owned a1 a2)).2; omega
      · have hii : i1 = i2 := by
          apply Classical.byContradiction; intro h
          exact owned_disjoint hr.nodup h a1 b1 a2 b2
        subst hii
        rcases a3 with ⟨rfl, a3⟩ | ⟨rfl, a3⟩ <;> rcases b3 with ⟨rfl, b3⟩ | ⟨rfl, b3⟩
        · exact hne rfl
        · rcases a3 with rfl | a3
          · exact hne rfl
          · rw [b3] at a3; exact Bool.noConfusion a3
        · rcases b3 with rfl | b3
          · exact hne rfl
          · rw [a3] at b3; exact Bool.noConfusion b3
        · exact hne rfl
  have hrange : ∀ k ∈ owned (ms.mapIdx F), w0.heap.size ≤ k ∧ k < w'.heap.size := by
    intro k hk
    obtain ⟨j, x, hj, hk⟩ := mem_owned hk
    rcases hcl j x k hj hk with ⟨_, rfl, h⟩ | ⟨j', x', h1, h2, _⟩
    · exact ⟨hbase, hlt _ h⟩
    · have := hin k (ent_owned h1 h2); exact ⟨this.1, Nat.lt_of_lt_of_le this.2 hg.size⟩
  have hk : ∀ k, OkB w0.heap.size A ms w k → w'.heap[k]? = w.heap[k]? ∧ OkB w0.heap.size A (ms.mapIdx F) w' k := by
    intro k ⟨k1, k2, k3⟩
    refine ⟨hg.block k k1 fun h => k3 (tops_mem hi (by rw [htop]; exact h.symm)), Nat.lt_of_lt_of_le k1 hg.size, k2, fun h => ?_⟩
    obtain ⟨j, x, hj, ht⟩ := mem_tops h
    rcases hcl j x k hj (by simp [ht]) with ⟨_, rfl, _⟩ | ⟨j', x', h1, h2, h3⟩
    · omega
    · rw [hget] at hj
      obtain ⟨x0, h4, rfl⟩ := Option.map_eq_some_iff.1 hj
      by_cases hji : j = i
      · subst hji
        rw [hFi] at ht
        simp only [e'] at ht
        rcases hat with h | h
        · exact k3 (tops_mem hi (by rw [htop, ← h]; exact ht))
        · rw [h] at ht; cases ht; omega
      · cases hc : c j
        · rw [hFo j _ hji hc] at ht; exact k3 (tops_mem h4 ht)
        · rw [hFc j _ hji hc] at ht; simp at ht
  have hm : ∀ (j : Nat) (x : Ent), p j = false → ms[j]? = some x → (ms.mapIdx F)[j]? = some x := by
    intro j x hpj hj
    have hji : j ≠ i := by rintro rfl; rw [hp_i] at hpj; exact Bool.noConfusion hpj
    have hcj : c j = false := by
      cases h : c j
      · rfl
      · rw [hpc j h] at hpj; exact Bool.noConfusion hpj
    rw [hget, hj, Option.map_some, hFo j x hji hcj]
  refine ⟨ms.mapIdx F, ⟨?_, hr.old, hr.size, hr.defers, by simp [newH_len, hr.len], hnd, hrange, ?_, ?_⟩, e', by rw [hget, hi, Option.map_some, hFi], rfl⟩
  · exact Below.grown hr.ext hg hr.ext.size fun k h => by
      have : e.top = some k := by rw [htop, h]
      exact (hin k (ent_owned hi (by simp [this]))).1
  · intro j b x hj hx
    simp only [newH_get, Nat.zero_add] at hj
    obtain ⟨b0, hb0, rfl⟩ := Option.map_eq_some_iff.1 hj
    rw [hget] at hx
    obtain ⟨x0, h1, rfl⟩ := Option.map_eq_some_iff.1 hx
    by_cases hji : j = i
    · subst hji
      rw [hi] at h1; cases h1
      rw [if_pos rfl, hFi]
      refine ⟨us, bs, hown, hrow, hv.keep ?_, rfl, ?_⟩
      · intro k hk'
        rcases hd with ⟨_, hdi, rfl, _⟩ | ⟨_, h2⟩
        · rcases List.mem_append.1 hk' with hk' | hk'
          · exact hg.block k (hin k (ent_owned hi (List.mem_append_right _ hk'))).2 (hnesti k hk')
          · obtain ⟨j', x', h2, h3, h4⟩ := hnk k hk'
            have hne : j' ≠ j := by rintro rfl; rw [h2] at hci; exact Bool.noConfusion hci
            exact hg.block k (hin k (ent_owned h3 h4)).2 (htopi j' x' k h3 hne h4)
        · exact hg.block k (h2 k hk').1.1 (h2 k hk').2
      · rcases hd with ⟨rfl, hdi, rfl, hun⟩ | ⟨rfl, h2⟩
        · refine ⟨rfl, fun k hk' => ?_⟩
          rcases List.mem_append.1 hk' with hk' | hk'
          · subst hdi
            have hU := o5.2 k (by rw [← o5.1]; exact hk')
            exact hU.keep (hg.block k (hin k (ent_owned hi (List.mem_append_right _ hk'))).2 (hnesti k hk'))
          · obtain ⟨j', x', h2, h3, h4⟩ := hnk k hk'
            have hne : j' ≠ j := by rintro rfl; rw [h2] at hci; exact Bool.noConfusion hci
            exact (hun k hk').keep (hg.block k (hin k (ent_owned h3 h4)).2 (htopi j' x' k h3 hne h4))
        · exact ⟨rfl, fun k hk' => (hk k (h2 k hk').1).2⟩
    · rw [if_neg hji]
      cases hc : c j
      · rw [hFo j _ hji hc]
        simp only [Bool.false_eq_true, if_false]
        have hE := hr.ents j b0 x0 hb0 h1
        have ht : ∀ k, x0.top = some k → w'.heap[k]? = w.heap[k]? := fun k h => hg.block k (hin k (ent_owned h1 (by simp [h]))).2 (htopi j x0 k h1 hji (by simp [h]))
        have hn : ∀ k ∈ x0.nest, w'.heap[k]? = w.heap[k]? := fun k h => hg.block k (hin k (ent_owned h1 (List.mem_append_right _ h))).2 (htopi j x0 k h1 hji (List.mem_append_right _ h))
        cases b0 with
        | gone => exact hE
        | arr _ _ _ _ => exact hE.mono hk ht hn fun _ _ hu _ => by simp [Blk.uses] at hu
        | fr _ _ => exact hE.mono hk ht hn fun _ _ hu _ => by simp [Blk.uses] at hu
        | cust _ => exact hE.mono hk ht hn fun _ _ hu _ => by simp [Blk.uses] at hu
        | cells t ds =>
          obtain ⟨g, us', rfl, h3, h4⟩ := hE
          exact ⟨g, us', rfl, by rw [ht g rfl]; exact h3, killD_mono hk hm h4⟩
      · rw [hFc j _ hji hc]
        simp only [if_true]
        exact ⟨rfl, rfl⟩
  · intro t
    rcases look_kill (p := p) (t := t) (l := sl) with h | h
    · simp only [St.get, h]; exact kill_mono hk hm (hr.slots t)
    · simp only [St.get, h]; exact .no

/-- Elements that are scalars alone. -/
def isLit : D → Bool
  | .lit _ => true
  | _ => false
def Flat (ys : List (List D)) : Prop := ∀ r ∈ ys, ∀ d ∈ r, isLit d = true
theorem VRs.flat : ∀ {ds : List D} {us : List Value} {bs : List Nat}, (∀ d ∈ ds, isLit d = true) → VRs w ds us bs → bs = []
  | _, _, _, _, .nil => rfl
  | _, _, _, h, .cons h1 h2 => by
    have e := VRs.flat (fun d hd => h d (List.mem_cons_of_mem _ hd)) h2
    subst e
    have := h _ (List.mem_cons_self ..)
    cases h1 <;> simp [isLit] at this
    rfl
theorem flat_map {α : Type} {l : List α} {f : α → List D} (h : ∀ x ∈ l, ∀ d ∈ f x, isLit d = true) : Flat (l.map f) := by
  intro r hr; obtain ⟨x, hx, rfl⟩ := List.mem_map.1 hr; exact h x hx
theorem flat_ints (l : List Int) : Flat (ints l) := flat_map (by simp [isLit])
theorem flat_strs (l : List ByteArray) : Flat (strs l) := flat_map (by simp [isLit])
theorem flat_bools (l : List Bool) : Flat (bools l) := flat_map (by simp [isLit])

theorem VR.one {d : D} {u : Value} {bs : List Nat} (h : VR w d u bs) : u.oneCell' = true := by
  cases h with
  | lit h => cases u <;> first | rfl | exact h.elim
  | nil => rfl
  | shnil _ _ => rfl
  | sh _ _ _ _ _ _ => rfl
theorem VRs.one : ∀ {ds : List D} {us : List Value} {bs : List Nat}, VRs w ds us bs → ∀ u ∈ us, u.oneCell' = true
  | _, _, _, .nil => by simp
  | _, _, _, .cons h h' => by
    intro u hu
    rcases List.mem_cons.1 hu with rfl | hu
    · exact h.one
    · exact VRs.one h' u hu

theorem Rel.nest_ok {s : St} (hr : Rel w0 A ms s a w) {i : Nat} {di : Bool} {e : Ent} {bs : List Nat} (hi : ms[i]? = some e) (h5 : if di then e.nest = bs ∧ ∀ k ∈ bs, Un w k else e.nest = [] ∧ ∀ k ∈ bs, OkB w0.heap.size A ms w k) : ∀ k ∈ bs, OkB w0.heap.size A ms w k := by
  intro k hk
  cases di with
  | false => exact h5.2 k hk
  | true =>
    have hk' : k ∈ e.nest := by rw [h5.1]; exact hk
    have ho := hr.range k (ent_owned hi (List.mem_append_right _ hk'))
    refine ⟨ho.2, Or.inl ho.1, fun ht => ?_⟩
    obtain ⟨j, e', hj, ht⟩ := mem_tops ht
    by_cases hij : j = i
    · subst hij
      rw [hi] at hj; cases hj
      have := owned_self hr.nodup hi
      rw [ht] at this
      simp at this
      exact this.1 hk'
    · exact owned_disjoint hr.nodup hij hj hi (by simp [ht]) (List.mem_append_right _ hk')

/-- Elements that lie at u; the blocks behind them. -/
def Src (w : World) (u : Value) (m : Nat) (ys : List (List D)) (bn : List Nat) : Prop :=
  (∀ r ∈ ys, r.length = m) ∧ ((u = .slice none 0 0 ∧ ys = [] ∧ bn = []) ∨ ∃ ad cap news, u = .slice (some ad) ys.length cap ∧ VRs w ys.flatten news bn ∧ ∀ j x, news[j]? = some x → w.cell? (ad.add j) = some x)
theorem src_of_vr {m : Nat} {ys : List (List D)} {u : Value} {bs : List Nat} (h : VR w (.sh m ys) u bs) : ∃ bn, Src w u m ys bn ∧ ∀ k ∈ bn, k ∈ bs := by
  cases h with
  | shnil h1 h2 =>
    rename_i a0 cap
    cases a0 with
    | none => exact ⟨[], ⟨by simp, Or.inl ⟨by rw [h2 rfl], rfl, rfl⟩⟩, by simp⟩
    | some ad => exact ⟨[], ⟨by simp, Or.inr ⟨ad, cap, [], rfl, .nil, by simp⟩⟩, by simp⟩
  | sh h1 h2 h3 h4 h5 h6 =>
    rename_i b o cap us bn
    refine ⟨bn, ⟨h1, Or.inr ⟨⟨b, o, none⟩, cap, us, rfl, h5, fun j x hj => ?_⟩⟩, fun k hk => List.mem_cons_of_mem _ hk⟩
    have hlt := (List.getElem?_eq_some_iff.1 hj).1
    have e : (⟨b, o, none⟩ : Addr).add j = ⟨b, o + j, none⟩ := by unfold Addr.add; split <;> simp_all
    rw [e, h6 j hlt]; exact hj

/-- What append makes of an array i and of elements ys. -/
theorem Rel.append {tab : Nat → Option TI} (hT : TabOk P tab) (hr : Rel w0 A ms ⟨n, sl, hp⟩ a w) {p c : Nat → Bool} {i m : Nat} {T t : TypeId} {xs ys : List (List D)} {di : Bool} {u : Value} {bn : List Nat} {e : Ent} {agg : Bool} {size bytes : Nat} {zero : List Value}
    {k' : TK} {agg' : Bool} {bytes' : Nat} {zero' : List Value} {ty : TypeId} (ht : tab t = some ⟨.sl T, agg, size, bytes, zero⟩) (hT' : tab T = some ⟨k', agg', m, bytes', zero'⟩) (hz : zero'.length = m) (hm : 0 < m) (hby : bytes' ≤ 1024)
    (hi : ms[i]? = some e) (hb : hp[i]? = some (.arr T m xs di)) (hci : c i = false) (hp_i : p i = true) (hpc : ∀ j, c j = true → p j = true) (hlen : xs.length + ys.length ≤ 4294967296) (hu : Src w u m ys bn) {nk : List Nat}
    (hnk : ∀ k ∈ nk, ∃ (j : Nat) (e' : Ent), c j = true ∧ ms[j]? = some e' ∧ k ∈ e'.top.toList ++ e'.nest) (hnn : nk.Nodup) {d' : Bool}
    (hd : (d' = true ∧ di = true ∧ bn = nk ∧ ∀ k ∈ nk, Un w k) ∨ (d' = false ∧ ∀ k ∈ bn, OkB w0.heap.size A ms w k)) :
    ∃ v' w', (Builtin.append_ #[t, t] ty #[e.v, u]).run P w = .ok v' w' ∧ ∃ ms', Rel w0 A ms' ⟨n, killS p sl, newH p c i (.arr T m (xs ++ ys) d') 0 hp⟩ a w' ∧ ∃ e', ms'[i]? = some e' ∧ e'.v = v' ∧ ∃ a n c, v' = .slice a n c := by
  obtain ⟨inf, td, z, h1, h2, h3, h4, _⟩ := hT.get ht
  obtain ⟨inf', td', z', g1, g2, g3, g4, g5, g6, g7, g8⟩ := hT.get hT'
  have htd := TK.sl_inv h4
  rw [htd] at h2
  have hzs : z'.cells.size = m := by rw [← hz, ← g8]; simp
  obtain ⟨us0, bs0, o1, o2, o3, htop, o5⟩ := hr.ents i _ e hb hi
  have hno := hr.nest_ok hi o5
  have hd' : (d' = true ∧ di = true ∧ bs0 ++ bn = e.nest ++ nk ∧ ∀ k ∈ nk, Un w k) ∨ (d' = false ∧ ∀ k ∈ bs0 ++ bn, OkB w0.heap.size A ms w k ∧ some k ≠ e.v.ownBlock) := by
    rcases hd with ⟨h1, h2, h3, h4⟩ | ⟨h1, h2⟩
    · subst h2; exact Or.inl ⟨h1, rfl, by rw [o5.1, h3], h4⟩
    · refine Or.inr ⟨h1, fun k hk => ?_⟩
      have : OkB w0.heap.size A ms w k := by
        rcases List.mem_append.1 hk with hk | hk
        · exact hno k hk
        · exact h2 k hk
      exact ⟨this, fun h => this.2.2 (tops_mem hi (by rw [htop, ← h]))⟩
  obtain ⟨hrows, ⟨rfl, rfl, rfl⟩ | ⟨ad, cap, news, rfl, hv, hcell⟩⟩ := hu
  · have hrun := run_append_owned_none (P := P) (w := w) w0.heap.size t ty T inf' m h2 g1 e.v xs.length us0 o1
    have hg : w.grownBy w e.v.ownBlock := ⟨rfl, rfl, rfl, Nat.le_refl _, fun _ _ _ => rfl⟩
    obtain ⟨ms', r1, e', r2, r3⟩ := hr.regrown (ys := []) (v' := e.v) (us := us0) (bs := bs0 ++ []) hi hb hci hp_i hpc hg (by simpa using o1) (by simpa using o2) (by simpa using o3) (Or.inl rfl) (fun k h => (hr.range k (ent_owned hi (by rw [htop, h]; simp))).2) hnk hnn hd'
    refine ⟨e.v, w, hrun, ms', r1, e', r2, r3, ?_⟩
    obtain ⟨_, ⟨h, _⟩ | ⟨g, cap, cur, h, _⟩⟩ := o1
    · exact ⟨_, _, _, h⟩
    · exact ⟨_, _, _, h⟩
  · have hl : news.length = ys.length * m := by rw [hv.len, flatten_len hrows]
    have hsz : xs.length + ys.length ≤ maxLen := by unfold maxLen; omega
    have hbb : (xs.length + ys.length) * bytes' ≤ 140737488355328 := Nat.le_trans (Nat.mul_le_mul hlen hby) (by decide)
    obtain ⟨v', w', hrun, q1, q2, q3, q4⟩ := run_append_own_at (P := P) w w0.heap.size t ty T inf' z' m bytes' h2 g1 g3 g6 g7 hzs hm e.v xs.length us0 o1 ad ys.length cap news hl hcell hv.one hsz hbb hr.ext.size
    obtain ⟨ms', r1, e', r2, r3⟩ := hr.regrown (ys := ys) (v' := v') (us := us0 ++ news) (bs := bs0 ++ bn) hi hb hci hp_i hpc q2 (by simpa using q1) (fun r h => by
        rcases List.mem_append.1 h with h | h
        · exact o2 r h
        · exact hrows r h) (by rw [List.flatten_append]; exact o3.append hv) q4 (fun k h => (q1.lt k h).2) hnk hnn hd'
    refine ⟨v', w', hrun, ms', r1, e', r2, r3, ?_⟩
    obtain ⟨_, ⟨h, _⟩ | ⟨g, cap, cur, h, _⟩⟩ := q1
    · exact ⟨_, _, _, h⟩
    · exact ⟨_, _, _, h⟩

variable {A' : Nat → Prop} {ops : Array Oper} {rest : List Oper} {K : St → Prop} {x y : Operand} {dst : Tmp} {ty : TypeId} {pos : String} {after : Array Edge}

def isI (i j : Nat) : Bool := Nat.beq i j
def isII (i k j : Nat) : Bool := match Nat.beq i j with | true => true | false => Nat.beq k j
def noneI (_ : Nat) : Bool := false

theorem run_append_op {o : Oper} {v' : Value} {t : TypeId} {ρ' : Operand → Value} (ho : o.op = .call ⟨.builtin .append, #[x, y], #[t, t]⟩) (h : (Builtin.append_ #[t, t] o.type #[ρ' x, ρ' y]).run P w = .ok v' w') : (execOp ρ' o).run P w = .ok (.value v') w' := by
  simp only [execOp, ho, resolve, invoke, builtin, Sem.run_bind, Sem.run_pure, Result.andThen_ok, List.map_toArray, List.map_cons, List.map_nil, h]

/-- append of scalars that lie in a slice that is read alone. -/
theorem R_append {tab : Nat → Option TI} (hT : TabOk P tab) {i m : Nat} {T t : TypeId} {xs ys : List (List D)} {di : Bool} {agg : Bool} {size bytes : Nat} {zero : List Value}
    {k' : TK} {agg' : Bool} {bytes' : Nat} {zero' : List Value} {sl' : List (Nat × D)} {hp' : List Blk} (hx : evD (look sl) x = .own i) (hy : evD (look sl) y = .sh m ys) (hb : hp[i]? = some (.arr T m xs di)) (ht : tab t = some ⟨.sl T, agg, size, bytes, zero⟩) (hT' : tab T = some ⟨k', agg', m, bytes', zero'⟩)
    (hz : Nat.beq zero'.length m = true) (hm : Nat.blt 0 m = true) (hby : Nat.ble bytes' 1024 = true) (hd : Nat.blt dst n = true) (hs : killK (isI i) sl (fun l => some l) = some sl') (hh : newK (isI i) noneI i (.arr T m (xs ++ ys) di) 0 hp (fun l => some l) = some hp')
    (hf : Flat ys) (hlen : xs.length + ys.length ≤ 4294967296) (hk : WO P w0 A ops rest ⟨n, (dst, .own i) :: sl', hp'⟩ K) :
    WO P w0 A ops (⟨some dst, .call ⟨.builtin .append, #[x, y], #[t, t]⟩, ty, pos, after, none⟩ :: rest) ⟨n, sl, hp⟩ K := by
  refine ⟨fun ms a w hr Q hq => ?_⟩
  refine wpList_plain rfl fun Kn hKn => ?_
  obtain ⟨e, hi, e1, hsl⟩ := (hr.ev_at hx).own_inv
  obtain ⟨bs, hv, hok⟩ := (hr.ev_at hy).sh_inv
  obtain ⟨bn, hsrc, hsub⟩ := src_of_vr hv
  have hbn : bn = [] := by
    obtain ⟨_, ⟨_, _, h⟩ | ⟨_, _, news, _, h, _⟩⟩ := hsrc
    · exact h
    · exact VRs.flat (fun d hd => by obtain ⟨r, hr, hd⟩ := List.mem_flatten.1 hd; exact hf r hr d hd) h
  subst hbn
  obtain ⟨v', w', hrun, ms', r1, e', r2, r3, r4⟩ := hr.append hT (p := isI i) (c := noneI) (ty := ty) ht hT' (Nat.eq_of_beq_eq_true hz) (by simpa [Nat.blt_eq] using hm) (Nat.le_of_ble_eq_true hby) hi hb rfl (by simp [isI]) (fun j h => by simp [noneI] at h) hlen hsrc (nk := []) (by simp) (by simp) (d' := di)
    (by cases di with
      | true => exact Or.inl ⟨rfl, rfl, rfl, by simp⟩
      | false => exact Or.inr ⟨rfl, by simp⟩)
  have hs' := killK_eq hs; have hh' := newK_eq hh
  simp only [Option.some.injEq] at hs' hh'
  subst hs'; subst hh'
  refine upon_value (run_append_op (ρ' := a.eval) rfl (by rw [e1]; exact hrun)) (hKn _ _ (hk.run ms' _ w' (Rel.put (t := some dst) r1 (by rw [← r3]; exact VX.own r2 (by rw [r3]; exact r4)) (dstOk_all (s := ⟨n, _, _⟩) (t := some dst) hd)) Q hq))
end
end Go.Proofs.Ytidfmgahnmpcdaa
