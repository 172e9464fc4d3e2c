/- Regions that draw their order, where one reading operation may come behind the first store. No condition. -/
import Derived.Test.YtodjjabmaleggaaAbsY
set_option linter.unusedSimpArgs false
set_option linter.unusedVariables false
namespace Go.Proofs.Ytodjjabmaleggaa
open Go.ChangeShapes Go.WideShapes Go.ChangeAt Go.RowKit

def dropT (t : Nat) : List (Nat × D) → List (Nat × D)
  | [] => []
  | x :: l => match Nat.beq x.1 t with | true => dropT t l | false => x :: dropT t l
def dropTK {α : Type} (t : Nat) : List (Nat × D) → (List (Nat × D) → Option α) → Option α
  | [], k => k []
  | x :: l, k => match Nat.beq x.1 t with | true => dropTK t l k | false => dropTK t l fun l' => k (x :: l')
theorem dropTK_eq {α : Type} {t : Nat} : ∀ {l : List (Nat × D)} {k : List (Nat × D) → Option α} {r : α}, dropTK t l k = some r → k (dropT t l) = some r
  | [], _, _, h => h
  | x :: l, k, r, h => by
    simp only [dropTK, dropT] at h ⊢
    cases hb : Nat.beq x.1 t <;> rw [hb] at h
    · exact dropTK_eq (k := fun l' => k (x :: l')) h
    · exact dropTK_eq h
theorem look_dropT {t t' : Nat} : ∀ {l : List (Nat × D)}, look (dropT t l) t' = if t' = t then .no else look l t'
  | [] => by simp [dropT, look]
  | x :: l => by
    simp only [dropT]
    have ih := look_dropT (t := t) (t' := t') (l := l)
    cases hb : Nat.beq x.1 t
    · have hne := Nat.ne_of_beq_eq_false hb
      obtain ⟨a, d⟩ := x
      simp only [look, ih]
      by_cases e : t' = a
      · subst e; rw [if_pos rfl, if_neg hne, if_pos rfl]
      · rw [if_neg e, if_neg e]
    · have he := Nat.eq_of_beq_eq_true hb
      obtain ⟨a, d⟩ := x
      simp only at he
      subst he
      simp only [ih, look]
      by_cases e : t' = a
      · rw [if_pos e, if_pos e]
      · rw [if_neg e, if_neg e, if_neg e]
theorem heapS_skip {S S' : Nat → Bool} : ∀ {rs : List Rec} {i : Nat} {hp : List Blk}, (∀ (j : Nat) (r : Rec), rs[j]? = some r → S (i + j) = S' (i + j) ∨ r.rh = []) → heapS rs S i hp = heapS rs S' i hp
  | [], _, _, _ => rfl
  | r :: rs, i, hp, h => by
    simp only [heapS]
    have h0 := h 0 r rfl
    have e : (if S i then r.rh else r.rh.map fun _ => .gone) = (if S' i then r.rh else r.rh.map fun _ => .gone) := by
      rcases h0 with h0 | h0
      · rw [show S i = S' i from h0]
      · rw [h0]; simp
    rw [e]
    exact heapS_skip fun j r' hj => by
      have := h (j + 1) r' (by simpa using hj)
      rwa [show i + (j + 1) = i + 1 + j by omega] at this
/-- As tailOk; but the first of the tail need not wait for q. -/
def tailOk2 (l : List Oper) (k q : Nat) : Bool := l.zipIdx.all fun x => Nat.blt x.2 k || ((afters x.1).all (fun m => Nat.blt m x.2) && (List.range x.2).all fun j => waits l l.length x.2 j || (Nat.beq x.2 k && Nat.beq j q))

section
variable {P : Program} {w0 : World} {A : Nat → Prop} {tab : Nat → Option TI} {n : Nat} {Q : Exit → St → Prop}
theorem DRun.rh_extract {ops : Array Oper} {H : Nat} {l : List Oper} {sl : List (Nat × D)} {hp : List Blk} {rs : List Rec} (h : DRun P w0 A tab ops H l sl hp rs) {q : Nat} {tq : Tmp} {x : Operand} {i : Nat} {ty : TypeId} {pos : String} {after : Array Edge} (hq : l[q]? = some ⟨some tq, .extract x i, ty, pos, after, none⟩) : ∃ r, rs[q]? = some r ∧ r.t = tq ∧ r.rh = [] := by
  obtain ⟨h1, h2⟩ := h.opsOf
  have hlt : q < rs.length := by
    have := (List.getElem?_eq_some_iff.1 hq).1
    rw [← h1] at this; simpa using this
  have hr : rs[q]? = some rs[q] := List.getElem?_eq_getElem hlt
  have ho : rs[q].o = ⟨some tq, .extract x i, ty, pos, after, none⟩ := by
    have : (rs.map Rec.o)[q]? = some rs[q].o := by rw [List.getElem?_map, hr]; rfl
    rw [h1, hq] at this
    exact (Option.some.inj this).symm
  have hd := h2 _ (List.getElem_mem hlt)
  rw [ho] at hd
  refine ⟨rs[q], hr, (Option.some.inj hd).symm, ?_⟩
  obtain ⟨hp', _, _, hat, _⟩ := h.get 0 q hr
  generalize rs[q] = r at ho hat
  obtain ⟨o, t, d, rh⟩ := r
  simp only at ho
  subst ho
  cases hat with
  | step _ hst => cases hst; rfl
  | on hg _ _ _ => cases hg
  | off hg _ _ _ _ => cases hg

theorem W_drawT2 (hm : P.follows .mixedOrders = true) (hT : TabOk P tab) {l1 l2 : List Oper} {ost : Oper} {id : Nat} {sl : List (Nat × D)} {hp : List Blk} {rs : List Rec} (q : Nat) {tq : Tmp} {x : Operand} {i0 : Nat} {ty : TypeId} {pos : String} {after : Array Edge} (hlq : l1[q]? = some ⟨some tq, .extract x i0, ty, pos, after, none⟩)
    (hok : drawOk l1 = true) (hto : tailOk2 (l1 ++ ost :: l2) l1.length q = true) (hrun : DRun P w0 A tab (l1 ++ ost :: l2).toArray hp.length l1 sl hp rs) (hn : rs.all (fun r => Nat.blt r.t n) = true)
    (hK : WO P w0 A (l1 ++ ost :: l2).toArray (ost :: l2) ⟨n, slotsS rs (fun _ => true) 0 sl, heapS rs (fun _ => true) 0 hp⟩ fun s => Q .normal s)
    (hK2 : WO P w0 A (l1 ++ ost :: l2).toArray (ost :: ⟨some tq, .extract x i0, ty, pos, after, none⟩ :: l2) ⟨n, dropT tq (slotsS rs (fun _ => true) 0 sl), heapS rs (fun _ => true) 0 hp⟩ fun s => Q .normal s) : W P w0 A (.region id (l1 ++ ost :: l2).toArray true) ⟨n, sl, hp⟩ Q := by
  refine ⟨fun ms a w hr => ?_⟩
  have hg : DGood P w0 A n (l1 ++ ost :: l2).toArray l1 rs sl hp := dgood hT (fun i hi => by simp [List.getElem?_append_left hi]) hok hrun hn
  obtain ⟨rq, hrq, htq, hrh⟩ := hrun.rh_extract hlq
  have hql : q < l1.length := (List.getElem?_eq_some_iff.1 hlq).1
  have hlenr : rs.length = l1.length := by have := congrArg List.length hrun.opsOf.1; simpa using this
  have hleft : ∀ (i : Nat), i < l1.length → (l1 ++ ost :: l2)[i]? = l1[i]? := fun i hi => List.getElem?_append_left hi
  have hdk : (l1 ++ ost :: l2).drop l1.length = ost :: l2 := List.drop_left
  have hdk1 : (l1 ++ ost :: l2).drop (l1.length + 1) = l2 := by rw [← List.drop_drop, hdk]; rfl
  have hgk : (l1 ++ ost :: l2)[l1.length]? = some ost := by rw [List.getElem?_append_right (Nat.le_refl _)]; simp
  simp only [tailOk2, List.all_eq_true] at hto
  have hta : ∀ (i : Nat) (o : Oper), (l1 ++ ost :: l2)[i]? = some o → l1.length ≤ i → (∀ m ∈ afters o, m < i) ∧ ∀ j, j < i → waits (l1 ++ ost :: l2) (l1 ++ ost :: l2).length i j = true ∨ (i = l1.length ∧ j = q) := by
    intro i o ho hi
    have := hto (o, i) (by rw [List.mem_zipIdx_iff_getElem?]; simpa using ho)
    simp only [Bool.or_eq_true, Bool.and_eq_true, List.all_eq_true] at this
    rcases this with h | ⟨h1, h2⟩
    · have : i < l1.length := by simpa [Nat.blt_eq] using h
      omega
    · refine ⟨fun m hm => by simpa [Nat.blt_eq] using h1 m hm, fun j hj => ?_⟩
      rcases h2 j (List.mem_range.2 hj) with h | ⟨h3, h4⟩
      · exact Or.inl h
      · exact Or.inr ⟨Nat.eq_of_beq_eq_true h3, Nat.eq_of_beq_eq_true h4⟩
  have hwf : ∀ (i : Nat) (o : Oper), (l1 ++ ost :: l2)[i]? = some o → ∀ e ∈ o.after, Region.binds .any e = true → e.on < i := by
    intro i o ho e he hb
    by_cases hi : i < l1.length
    · rw [hleft i hi] at ho; exact hg.wf i o ho e he hb
    · exact (hta i o ho (by omega)).1 e.on (mem_afters.2 ⟨e, he, hb, rfl⟩)
  let Q' : Exit → Act → World → Prop := fun e a' w' => e = .normal ∧ ∃ ms' s', Rel w0 A ms' s' a' w' ∧ Q .normal s'
  have hall : ∀ (S : Nat → Bool) (i : Nat) (o : Oper), (∀ (j : Nat) (o' : Oper), (l1 ++ ost :: l2)[j]? = some o' → S j = true → ∀ e ∈ o'.after, Region.binds .any e = true → S e.on = true) → (l1 ++ ost :: l2)[i]? = some o → (∀ e ∈ o.after, Region.binds .any e = true → S e.on = true) → l1.length ≤ i → ∀ j, j < i → ¬ (i = l1.length ∧ j = q) → S j = true := by
    intro S i o hc ho ha hi j hj hnq
    have h := ((hta i o ho hi).2 j hj).resolve_right hnq
    have hpos : (l1 ++ ost :: l2).length = (l1 ++ ost :: l2).length - 1 + 1 := by have := (List.getElem?_eq_some_iff.1 ho).1; omega
    rw [hpos] at h
    simp only [waits, ho, List.any_eq_true] at h
    obtain ⟨m, hm', h⟩ := h
    obtain ⟨e, he, hb, rfl⟩ := mem_afters.1 hm'
    have h1 := ha e he hb
    rw [Bool.or_eq_true] at h
    rcases h with h | h
    · rw [← Nat.eq_of_beq_eq_true h]; exact h1
    · exact waits_ok hc h h1
  refine wp_region_inv (I := fun S a w => ((∀ j, l1.length ≤ j → S j = false) ∧ DInv w0 A n rs sl hp S a w) ∨ (∃ m, l1.length ≤ m ∧ (∀ j, S j = decide (j < m)) ∧ wpList P (l1 ++ ost :: l2).toArray Q' ((l1 ++ ost :: l2).drop m) a w) ∨ ((∀ j, S j = decide (j < l1.length + 1 ∧ j ≠ q)) ∧ wpList P (l1 ++ ost :: l2).toArray Q' (⟨some tq, .extract x i0, ty, pos, after, none⟩ :: l2) a w)) hm hwf (Or.inl ⟨fun _ _ => rfl, hg.start hr⟩) ?_ ?_
  · intro S a w i o hSl hc hI ho hSi ha
    have hexec : ∀ (tl : List Oper) (J : Act → World → Prop), (∀ a' w', wpList P (l1 ++ ost :: l2).toArray Q' tl a' w' → J a' w') → wpList P (l1 ++ ost :: l2).toArray Q' (o :: tl) a w →
        if Region.wanted o (yielded (l1 ++ ost :: l2).toArray a.tmps) then o.wp P a w J (fun _ _ _ => False) else J (a.put o.dst undef) w := by
      intro tl J hJ hl
      unfold wpList at hl
      split
      · rename_i hw
        rw [if_pos hw] at hl
        rcases hl with hl | ⟨_, ⟨_, _, h⟩⟩
        · have : o.wp P a w (wpList P (l1 ++ ost :: l2).toArray Q' tl) (fun _ _ _ => False) := by
            have hq : ∀ (a' : Act) (w' : World) (e : Exit), e ≠ .normal → ¬ Q' e a' w' := fun _ _ _ h1 h2 => h1 h2.1
            unfold Oper.wp at hl ⊢
            generalize (execOp a.eval o).run P w = r at *
            cases r with
            | ok x w' =>
              cases x <;> simp only [Oper.upon] at hl ⊢
              case value => exact hl
              case skip => exact hl
              case defer => exact hl
              case enter => exact Calls.mono hl (fun e w'' he => by cases e with | returned v => exact he | panicked c => exact (hq _ _ _ (by simp) he).elim | outgrown => obtain ⟨_, _, h⟩ := he; exact (hq _ _ _ (by simp) h).elim)
              case row => exact hl
            | halt x w' =>
              cases x <;> simp only [Oper.upon] at hl ⊢
              exact (hq _ _ _ (by simp) hl).elim
          exact Oper.wp_mono hJ this
        · exact absurd h.1 (by simp)
      · rename_i hw
        rw [if_neg hw] at hl
        exact hJ _ _ hl
    rcases hI with ⟨hno, hI⟩ | ⟨m, hm', hSm, hl⟩ | ⟨hSq, hl⟩
    · by_cases hi : i < l1.length
      · have ho' : l1[i]? = some o := by rw [← hleft i hi]; exact ho
        have hc' : ∀ (j : Nat) (o' : Oper), l1[j]? = some o' → S j = true → ∀ e ∈ o'.after, Region.binds .any e = true → S e.on = true := fun j o' hj => hc j o' (by rw [hleft j (List.getElem?_eq_some_iff.1 hj).1]; exact hj)
        have hst := hg.step S a w i o hc' hI ho' hSi ha
        have hno' : ∀ j, l1.length ≤ j → (if j = i then true else S j) = false := fun j hj => by rw [if_neg (by omega)]; exact hno j hj
        split
        · rename_i hw
          rw [if_pos hw] at hst
          exact Oper.wp_mono (fun a' w' h => Or.inl ⟨hno', h⟩) hst
        · rename_i hw
          rw [if_neg hw] at hst
          exact Or.inl ⟨hno', hst⟩
      · have hi := Nat.le_of_not_lt hi
        have hlt := hall S i o hc ho ha hi
        have him : i = l1.length := by
          apply Classical.byContradiction; intro hne
          have := hlt l1.length (by omega) (by omega)
          rw [hno _ (Nat.le_refl _)] at this; exact Bool.noConfusion this
        subst him
        have heo : o = ost := by rw [hgk] at ho; exact (Option.some.inj ho).symm
        subst heo
        cases hSq : S q with
        | true =>
          have hlt' : ∀ j, j < l1.length → S j = true := fun j hj => by
            by_cases e : j = q
            · rw [e]; exact hSq
            · exact hlt j hj (by omega)
          obtain ⟨ms', hr'⟩ := hg.fin hlt' hI
          have hl := hK.run ms' a w hr' Q' fun ms'' s' a' w' h1 h2 => ⟨rfl, ms'', s', h1, h2⟩
          refine hexec l2 _ (fun a' w' h => Or.inr (Or.inl ⟨l1.length + 1, by omega, fun j => ?_, by rw [hdk1]; exact h⟩)) hl
          show (if j = l1.length then true else S j) = _
          split
          · rename_i e; subst e; simp
          · by_cases hj : j < l1.length
            · rw [hlt' j hj]; simp; omega
            · rw [hno j (by omega)]; simp; omega
        | false =>
          obtain ⟨ms', hr', hph⟩ := hI
          have hlt' : ∀ j, j < l1.length → S j = decide (j ≠ q) := fun j hj => by
            by_cases e : j = q
            · rw [e, hSq]; simp
            · rw [hlt j hj (by omega)]; simp [e]
          have hh : heapS rs S 0 hp = heapS rs (fun _ => true) 0 hp := heapS_skip fun j r hj => by
            rw [Nat.zero_add]
            by_cases e : j = q
            · subst e; rw [hrq] at hj; cases hj; exact Or.inr hrh
            · exact Or.inl (hlt j (by rw [← hlenr]; exact (List.getElem?_eq_some_iff.1 hj).1) (by omega))
          have hr2 : Rel w0 A ms' ⟨n, dropT tq (slotsS rs (fun _ => true) 0 sl), heapS rs (fun _ => true) 0 hp⟩ a w := by
            rw [hh] at hr'
            refine ⟨hr'.ext, hr'.old, hr'.size, hr'.defers, hr'.len, hr'.nodup, hr'.range, hr'.ents, fun t => ?_⟩
            have hv := hr'.slots t
            simp only [St.get] at hv ⊢
            rw [look_dropT]
            split
            · exact .no
            · rename_i hne
              have : look (slotsS rs S 0 sl) t = look (slotsS rs (fun _ => true) 0 sl) t := look_congr rfl fun j r hj ht => by
                rw [Nat.zero_add]
                by_cases e : j = q
                · subst e; rw [hrq] at hj; cases hj; exact absurd (ht.symm.trans htq) hne
                · exact hlt j (by rw [← hlenr]; exact (List.getElem?_eq_some_iff.1 hj).1) (by omega)
              rw [← this]; exact hv
          have hl := hK2.run ms' a w hr2 Q' fun ms'' s' a' w' h1 h2 => ⟨rfl, ms'', s', h1, h2⟩
          refine hexec _ _ (fun a' w' h => Or.inr (Or.inr ⟨fun j => ?_, h⟩)) hl
          show (if j = l1.length then true else S j) = _
          split
          · rename_i e; subst e; simp; omega
          · by_cases hj : j < l1.length
            · rw [hlt' j hj]; simp; omega
            · rw [hno j (by omega)]; simp; omega
    · have hi : m ≤ i := by
        apply Classical.byContradiction; intro hne
        rw [hSm i] at hSi; simp at hSi; omega
      have him : i = m := by
        apply Classical.byContradiction; intro hne
        by_cases hq : i = l1.length
        · omega
        · have := hall S i o hc ho ha (by omega) m (by omega) (by omega)
          rw [hSm m] at this; simp at this
      subst him
      have hdrop : (l1 ++ ost :: l2).drop i = o :: (l1 ++ ost :: l2).drop (i + 1) := by
        have hi := List.getElem?_eq_some_iff.1 ho
        rw [List.drop_eq_getElem_cons hi.1, hi.2]
      rw [hdrop] at hl
      refine hexec _ _ (fun a' w' h => Or.inr (Or.inl ⟨i + 1, by omega, fun j => ?_, h⟩)) hl
      show (if j = i then true else S j) = _
      split
      · rename_i e; subst e; simp
      · rw [hSm j]; simp; omega
    · by_cases hiq : i = q
      · subst hiq
        have heo : o = ⟨some tq, .extract x i0, ty, pos, after, none⟩ := by
          rw [hleft i hql, hlq] at ho; exact (Option.some.inj ho).symm
        subst heo
        refine hexec l2 _ (fun a' w' h => Or.inr (Or.inl ⟨l1.length + 1, by omega, fun j => ?_, by rw [hdk1]; exact h⟩)) hl
        show (if j = i then true else S j) = _
        split
        · rename_i e; subst e; simp; omega
        · rename_i e; rw [hSq j]; simp [e]
      · exfalso
        have hik : l1.length + 1 ≤ i := by
          apply Classical.byContradiction; intro hne
          have := hSq i
          rw [hSi] at this; simp at this; omega
        have := hall S i o hc ho ha (by omega) q (by omega) (by omega)
        rw [hSq q] at this; simp at this
  · intro S a w hS hI
    have fin : ∀ {a w}, Q' .normal a w → ∃ ms' s', Rel w0 A ms' s' a w ∧ Q .normal s' := fun h => h.2
    rcases hI with ⟨hno, hI⟩ | ⟨m, hm', hSm, hl⟩ | ⟨hSq, hl⟩
    · have := hS l1.length (by simp)
      rw [hno _ (Nat.le_refl _)] at this; exact Bool.noConfusion this
    · have hml : (l1 ++ ost :: l2).length ≤ m := by
        apply Classical.byContradiction; intro hne
        have := hS m (by omega)
        rw [hSm m] at this; simp at this
      rw [List.drop_of_length_le hml] at hl
      exact fin hl
    · have := hS q (by simp; omega)
      rw [hSq q] at this; simp at this
/-- The same for the walks: the region's text is cut at its first operation that stores. -/
theorem W_drawTR2 {T : Nat} (_kp : Keep T) (hm : P.follows .mixedOrders = true) (hT : TabOk P tab) (q : Nat) {l l1 l2 : List Oper} {ost : Oper} {id : Nat} {sl sl' : List (Nat × D)} {hp : List Blk} {tq : Tmp} {x : Operand} {i0 : Nat} {ty : TypeId} {pos : String} {after : Array Edge} (e : firstK T sl some = some sl') (hs : splitK l (fun a b => some (a, b)) = some (l1, ost :: l2))
    (hlq : l1[q]? = some ⟨some tq, .extract x i0, ty, pos, after, none⟩) (hok : drawOk l1 = true) (hto : tailOk2 l l1.length q = true)
    (h : DW P w0 A tab l.toArray hp.length n l1 sl' hp fun s => WO P w0 A l.toArray (ost :: l2) s (fun s => Q .normal s) ∧ ∃ sl2, dropTK tq s.slots (fun l => some l) = some sl2 ∧ WO P w0 A l.toArray (ost :: ⟨some tq, .extract x i0, ty, pos, after, none⟩ :: l2) ⟨s.n, sl2, s.heap⟩ fun s => Q .normal s) :
    W P w0 A (.region id l.toArray true) ⟨n, sl, hp⟩ Q := by
  have e := firstK_eq e
  simp only [Option.some.injEq] at e
  subst e
  refine W_weak (s' := ⟨n, firstS T sl, hp⟩) (fun ms a w h => ⟨ms, h.first⟩) ?_
  obtain ⟨a, b, h1, rfl⟩ := splitK_eq hs
  simp only [Option.some.injEq, Prod.mk.injEq] at h1
  obtain ⟨rfl, rfl⟩ := h1
  obtain ⟨rs, h1, h2, h3, sl2, h4, h5⟩ := h.run
  have h4 := dropTK_eq h4
  simp only [Option.some.injEq] at h4
  subst h4
  exact W_drawT2 hm hT q hlq hok hto h1 h2 h3 h5
end
end Go.Proofs.Ytodjjabmaleggaa
