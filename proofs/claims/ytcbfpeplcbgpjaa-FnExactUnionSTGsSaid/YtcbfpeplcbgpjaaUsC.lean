/- Regions that draw their order, where one reading operation may come behind the first store. No condition. Graphs that are handed back if they are right. No condition. The union of two graphs, plain. No condition. The union of two graphs: what the program's function hands back. No condition. Arrays of the call's own whose slice is known as a value for a while; functions of two graphs whose slices are known as values. No condition. The union of two graphs: what the reference's function hands back. No condition. -/
import Derived.Test.YtcbfpeplcbgpjaaAbsY
import Derived.Test.YtcbfpeplcbgpjaaIf
import Derived.Test.YtcbfpeplcbgpjaaStg
import Derived.Test.YtcbfpeplcbgpjaaMir
import Derived.Test.YtcbfpeplcbgpjaaCat
import Derived.Test.YtcbfpeplcbgpjaaDel
import Derived.Test.YtcbfpeplcbgpjaaPinA
import Derived.Test.YtcbfpeplcbgpjaaRet
import Derived.Test.YtcbfpeplcbgpjaaRen
set_option linter.unusedSimpArgs false
set_option linter.unusedVariables false
set_option maxHeartbeats 2000000
namespace Go.Proofs.Ytcbfpeplcbgpjaa
open Go.ChangeShapes Go.WideShapes Go.ChangeAt Go.RowKit

def dropT (t : Nat) : List (Nat × D) → List (Nat × D)
  | [] => []
  | x :: l => match Nat.beq x.1 t with | true => dropT t l | false => x :: dropT t l
def dropTK {α : Type} (t : Nat) : List (Nat × D) → (List (Nat × D) → Option α) → Option α
  | [], k => k []
  | x :: l, k => match Nat.beq x.1 t with | true => dropTK t l k | false => dropTK t l fun l' => k (x :: l')
theorem dropTK_eq {α : Type} {t : Nat} : ∀ {l : List (Nat × D)} {k : List (Nat × D) → Option α} {r : α}, dropTK t l k = some r → k (dropT t l) = some r
  | [], _, _, h => h
  | x :: l, k, r, h => by
    simp only [dropTK, dropT] at h ⊢
    cases hb : Nat.beq x.1 t <;> rw [hb] at h
    · exact dropTK_eq (k := fun l' => k (x :: l')) h
    · exact dropTK_eq h
theorem look_dropT {t t' : Nat} : ∀ {l : List (Nat × D)}, look (dropT t l) t' = if t' = t then .no else look l t'
  | [] => by simp [dropT, look]
  | x :: l => by
    simp only [dropT]
    have ih := look_dropT (t := t) (t' := t') (l := l)
    cases hb : Nat.beq x.1 t
    · have hne := Nat.ne_of_beq_eq_false hb
      obtain ⟨a, d⟩ := x
      simp only [look, ih]
      by_cases e : t' = a
      · subst e; rw [if_pos rfl, if_neg hne, if_pos rfl]
      · rw [if_neg e, if_neg e]
    · have he := Nat.eq_of_beq_eq_true hb
      obtain ⟨a, d⟩ := x
      simp only at he
      subst he
      simp only [ih, look]
      by_cases e : t' = a
      · rw [if_pos e, if_pos e]
      · rw [if_neg e, if_neg e, if_neg e]
theorem heapS_skip {S S' : Nat → Bool} : ∀ {rs : List Rec} {i : Nat} {hp : List Blk}, (∀ (j : Nat) (r : Rec), rs[j]? = some r → S (i + j) = S' (i + j) ∨ r.rh = []) → heapS rs S i hp = heapS rs S' i hp
  | [], _, _, _ => rfl
  | r :: rs, i, hp, h => by
    simp only [heapS]
    have h0 := h 0 r rfl
    have e : (if S i then r.rh else r.rh.map fun _ => .gone) = (if S' i then r.rh else r.rh.map fun _ => .gone) := by
      rcases h0 with h0 | h0
      · rw [show S i = S' i from h0]
      · rw [h0]; simp
    rw [e]
    exact heapS_skip fun j r' hj => by
      have := h (j + 1) r' (by simpa using hj)
      rwa [show i + (j + 1) = i + 1 + j by omega] at this
/-- As tailOk; but the first of the tail need not wait for q. -/
def tailOk2 (l : List Oper) (k q : Nat) : Bool := l.zipIdx.all fun x => Nat.blt x.2 k || ((afters x.1).all (fun m => Nat.blt m x.2) && (List.range x.2).all fun j => waits l l.length x.2 j || (Nat.beq x.2 k && Nat.beq j q))

section
variable {P : Program} {w0 : World} {A : Nat → Prop} {tab : Nat → Option TI} {n : Nat} {Q : Exit → St → Prop}
theorem DRun.rh_extract {ops : Array Oper} {H : Nat} {l : List Oper} {sl : List (Nat × D)} {hp : List Blk} {rs : List Rec} (h : DRun P w0 A tab ops H l sl hp rs) {q : Nat} {tq : Tmp} {x : Operand} {i : Nat} {ty : TypeId} {pos : String} {after : Array Edge} (hq : l[q]? = some ⟨some tq, .extract x i, ty, pos, after, none⟩) : ∃ r, rs[q]? = some r ∧ r.t = tq ∧ r.rh = [] := by
  obtain ⟨h1, h2⟩ := h.opsOf
  have hlt : q < rs.length := by
    have := (List.getElem?_eq_some_iff.1 hq).1
    rw [← h1] at this; simpa using this
  have hr : rs[q]? = some rs[q] := List.getElem?_eq_getElem hlt
  have ho : rs[q].o = ⟨some tq, .extract x i, ty, pos, after, none⟩ := by
    have : (rs.map Rec.o)[q]? = some rs[q].o := by rw [List.getElem?_map, hr]; rfl
    rw [h1, hq] at this
    exact (Option.some.inj this).symm
  have hd := h2 _ (List.getElem_mem hlt)
  rw [ho] at hd
  refine ⟨rs[q], hr, (Option.some.inj hd).symm, ?_⟩
  obtain ⟨hp', _, _, hat, _⟩ := h.get 0 q hr
  generalize rs[q] = r at ho hat
  obtain ⟨o, t, d, rh⟩ := r
  simp only at ho
  subst ho
  cases hat with
  | step _ hst => cases hst; rfl
  | on hg _ _ _ => cases hg
  | off hg _ _ _ _ => cases hg

theorem W_drawT2 (hm : P.follows .mixedOrders = true) (hT : TabOk P tab) {l1 l2 : List Oper} {ost : Oper} {id : Nat} {sl : List (Nat × D)} {hp : List Blk} {rs : List Rec} (q : Nat) {tq : Tmp} {x : Operand} {i0 : Nat} {ty : TypeId} {pos : String} {after : Array Edge} (hlq : l1[q]? = some ⟨some tq, .extract x i0, ty, pos, after, none⟩)
    (hok : drawOk l1 = true) (hto : tailOk2 (l1 ++ ost :: l2) l1.length q = true) (hrun : DRun P w0 A tab (l1 ++ ost :: l2).toArray hp.length l1 sl hp rs) (hn : rs.all (fun r => Nat.blt r.t n) = true)
    (hK : WO P w0 A (l1 ++ ost :: l2).toArray (ost :: l2) ⟨n, slotsS rs (fun _ => true) 0 sl, heapS rs (fun _ => true) 0 hp⟩ fun s => Q .normal s)
    (hK2 : WO P w0 A (l1 ++ ost :: l2).toArray (ost :: ⟨some tq, .extract x i0, ty, pos, after, none⟩ :: l2) ⟨n, dropT tq (slotsS rs (fun _ => true) 0 sl), heapS rs (fun _ => true) 0 hp⟩ fun s => Q .normal s) : W P w0 A (.region id (l1 ++ ost :: l2).toArray true) ⟨n, sl, hp⟩ Q := by
  refine ⟨fun ms a w hr => ?_⟩
  have hg : DGood P w0 A n (l1 ++ ost :: l2).toArray l1 rs sl hp := dgood hT (fun i hi => by simp [List.getElem?_append_left hi]) hok hrun hn
  obtain ⟨rq, hrq, htq, hrh⟩ := hrun.rh_extract hlq
  have hql : q < l1.length := (List.getElem?_eq_some_iff.1 hlq).1
  have hlenr : rs.length = l1.length := by have := congrArg List.length hrun.opsOf.1; simpa using this
  have hleft : ∀ (i : Nat), i < l1.length → (l1 ++ ost :: l2)[i]? = l1[i]? := fun i hi => List.getElem?_append_left hi
  have hdk : (l1 ++ ost :: l2).drop l1.length = ost :: l2 := List.drop_left
  have hdk1 : (l1 ++ ost :: l2).drop (l1.length + 1) = l2 := by rw [← List.drop_drop, hdk]; rfl
  have hgk : (l1 ++ ost :: l2)[l1.length]? = some ost := by rw [List.getElem?_append_right (Nat.le_refl _)]; simp
  simp only [tailOk2, List.all_eq_true] at hto
  have hta : ∀ (i : Nat) (o : Oper), (l1 ++ ost :: l2)[i]? = some o → l1.length ≤ i → (∀ m ∈ afters o, m < i) ∧ ∀ j, j < i → waits (l1 ++ ost :: l2) (l1 ++ ost :: l2).length i j = true ∨ (i = l1.length ∧ j = q) := by
    intro i o ho hi
    have := hto (o, i) (by rw [List.mem_zipIdx_iff_getElem?]; simpa using ho)
    simp only [Bool.or_eq_true, Bool.and_eq_true, List.all_eq_true] at this
    rcases this with h | ⟨h1, h2⟩
    · have : i < l1.length := by simpa [Nat.blt_eq] using h
      omega
    · refine ⟨fun m hm => by simpa [Nat.blt_eq] using h1 m hm, fun j hj => ?_⟩
      rcases h2 j (List.mem_range.2 hj) with h | ⟨h3, h4⟩
      · exact Or.inl h
      · exact Or.inr ⟨Nat.eq_of_beq_eq_true h3, Nat.eq_of_beq_eq_true h4⟩
  have hwf : ∀ (i : Nat) (o : Oper), (l1 ++ ost :: l2)[i]? = some o → ∀ e ∈ o.after, Region.binds .any e = true → e.on < i := by
    intro i o ho e he hb
    by_cases hi : i < l1.length
    · rw [hleft i hi] at ho; exact hg.wf i o ho e he hb
    · exact (hta i o ho (by omega)).1 e.on (mem_afters.2 ⟨e, he, hb, rfl⟩)
  let Q' : Exit → Act → World → Prop := fun e a' w' => e = .normal ∧ ∃ ms' s', Rel w0 A ms' s' a' w' ∧ Q .normal s'
  have hall : ∀ (S : Nat → Bool) (i : Nat) (o : Oper), (∀ (j : Nat) (o' : Oper), (l1 ++ ost :: l2)[j]? = some o' → S j = true → ∀ e ∈ o'.after, Region.binds .any e = true → S e.on = true) → (l1 ++ ost :: l2)[i]? = some o → (∀ e ∈ o.after, Region.binds .any e = true → S e.on = true) → l1.length ≤ i → ∀ j, j < i → ¬ (i = l1.length ∧ j = q) → S j = true := by
    intro S i o hc ho ha hi j hj hnq
    have h := ((hta i o ho hi).2 j hj).resolve_right hnq
    have hpos : (l1 ++ ost :: l2).length = (l1 ++ ost :: l2).length - 1 + 1 := by have := (List.getElem?_eq_some_iff.1 ho).1; omega
    rw [hpos] at h
    simp only [waits, ho, List.any_eq_true] at h
    obtain ⟨m, hm', h⟩ := h
    obtain ⟨e, he, hb, rfl⟩ := mem_afters.1 hm'
    have h1 := ha e he hb
    rw [Bool.or_eq_true] at h
    rcases h with h | h
    · rw [← Nat.eq_of_beq_eq_true h]; exact h1
    · exact waits_ok hc h h1
  refine wp_region_inv (I := fun S a w => ((∀ j, l1.length ≤ j → S j = false) ∧ DInv w0 A n rs sl hp S a w) ∨ (∃ m, l1.length ≤ m ∧ (∀ j, S j = decide (j < m)) ∧ wpList P (l1 ++ ost :: l2).toArray Q' ((l1 ++ ost :: l2).drop m) a w) ∨ ((∀ j, S j = decide (j < l1.length + 1 ∧ j ≠ q)) ∧ wpList P (l1 ++ ost :: l2).toArray Q' (⟨some tq, .extract x i0, ty, pos, after, none⟩ :: l2) a w)) hm hwf (Or.inl ⟨fun _ _ => rfl, hg.start hr⟩) ?_ ?_
  · intro S a w i o hSl hc hI ho hSi ha
    have hexec : ∀ (tl : List Oper) (J : Act → World → Prop), (∀ a' w', wpList P (l1 ++ ost :: l2).toArray Q' tl a' w' → J a' w') → wpList P (l1 ++ ost :: l2).toArray Q' (o :: tl) a w →
        if Region.wanted o (yielded (l1 ++ ost :: l2).toArray a.tmps) then o.wp P a w J (fun _ _ _ => False) else J (a.put o.dst undef) w := by
      intro tl J hJ hl
      unfold wpList at hl
      split
      · rename_i hw
        rw [if_pos hw] at hl
        rcases hl with hl | ⟨_, ⟨_, _, h⟩⟩
        · have : o.wp P a w (wpList P (l1 ++ ost :: l2).toArray Q' tl) (fun _ _ _ => False) := by
            have hq : ∀ (a' : Act) (w' : World) (e : Exit), e ≠ .normal → ¬ Q' e a' w' := fun _ _ _ h1 h2 => h1 h2.1
            unfold Oper.wp at hl ⊢
            generalize (execOp a.eval o).run P w = r at *
            cases r with
            | ok x w' =>
              cases x <;> simp only [Oper.upon] at hl ⊢
              case value => exact hl
              case skip => exact hl
              case defer => exact hl
              case enter => exact Calls.mono hl (fun e w'' he => by cases e with | returned v => exact he | panicked c => exact (hq _ _ _ (by simp) he).elim | outgrown => obtain ⟨_, _, h⟩ := he; exact (hq _ _ _ (by simp) h).elim)
              case row => exact hl
            | halt x w' =>
              cases x <;> simp only [Oper.upon] at hl ⊢
              exact (hq _ _ _ (by simp) hl).elim
          exact Oper.wp_mono hJ this
        · exact absurd h.1 (by simp)
      · rename_i hw
        rw [if_neg hw] at hl
        exact hJ _ _ hl
    rcases hI with ⟨hno, hI⟩ | ⟨m, hm', hSm, hl⟩ | ⟨hSq, hl⟩
    · by_cases hi : i < l1.length
      · have ho' : l1[i]? = some o := by rw [← hleft i hi]; exact ho
        have hc' : ∀ (j : Nat) (o' : Oper), l1[j]? = some o' → S j = true → ∀ e ∈ o'.after, Region.binds .any e = true → S e.on = true := fun j o' hj => hc j o' (by rw [hleft j (List.getElem?_eq_some_iff.1 hj).1]; exact hj)
        have hst := hg.step S a w i o hc' hI ho' hSi ha
        have hno' : ∀ j, l1.length ≤ j → (if j = i then true else S j) = false := fun j hj => by rw [if_neg (by omega)]; exact hno j hj
        split
        · rename_i hw
          rw [if_pos hw] at hst
          exact Oper.wp_mono (fun a' w' h => Or.inl ⟨hno', h⟩) hst
        · rename_i hw
          rw [if_neg hw] at hst
          exact Or.inl ⟨hno', hst⟩
      · have hi := Nat.le_of_not_lt hi
        have hlt := hall S i o hc ho ha hi
        have him : i = l1.length := by
          apply Classical.byContradiction; intro hne
          have := hlt l1.length (by omega) (by omega)
          rw [hno _ (Nat.le_refl _)] at this; exact Bool.noConfusion this
        subst him
        have heo : o = ost := by rw [hgk] at ho; exact (Option.some.inj ho).symm
        subst heo
        cases hSq : S q with
        | true =>
          have hlt' : ∀ j, j < l1.length → S j = true := fun j hj => by
            by_cases e : j = q
            · rw [e]; exact hSq
            · exact hlt j hj (by omega)
          obtain ⟨ms', hr'⟩ := hg.fin hlt' hI
          have hl := hK.run ms' a w hr' Q' fun ms'' s' a' w' h1 h2 => ⟨rfl, ms'', s', h1, h2⟩
          refine hexec l2 _ (fun a' w' h => Or.inr (Or.inl ⟨l1.length + 1, by omega, fun j => ?_, by rw [hdk1]; exact h⟩)) hl
          show (if j = l1.length then true else S j) = _
          split
          · rename_i e; subst e; simp
          · by_cases hj : j < l1.length
            · rw [hlt' j hj]; simp; omega
            · rw [hno j (by omega)]; simp; omega
        | false =>
          obtain ⟨ms', hr', hph⟩ := hI
          have hlt' : ∀ j, j < l1.length → S j = decide (j ≠ q) := fun j hj => by
            by_cases e : j = q
            · rw [e, hSq]; simp
            · rw [hlt j hj (by omega)]; simp [e]
          have hh : heapS rs S 0 hp = heapS rs (fun _ => true) 0 hp := heapS_skip fun j r hj => by
            rw [Nat.zero_add]
            by_cases e : j = q
            · subst e; rw [hrq] at hj; cases hj; exact Or.inr hrh
            · exact Or.inl (hlt j (by rw [← hlenr]; exact (List.getElem?_eq_some_iff.1 hj).1) (by omega))
          have hr2 : Rel w0 A ms' ⟨n, dropT tq (slotsS rs (fun _ => true) 0 sl), heapS rs (fun _ => true) 0 hp⟩ a w := by
            rw [hh] at hr'
            refine ⟨hr'.ext, hr'.old, hr'.size, hr'.defers, hr'.len, hr'.nodup, hr'.range, hr'.ents, fun t => ?_⟩
            have hv := hr'.slots t
            simp only [St.get] at hv ⊢
            rw [look_dropT]
            split
            · exact .no
            · rename_i hne
              have : look (slotsS rs S 0 sl) t = look (slotsS rs (fun _ => true) 0 sl) t := look_congr rfl fun j r hj ht => by
                rw [Nat.zero_add]
                by_cases e : j = q
                · subst e; rw [hrq] at hj; cases hj; exact absurd (ht.symm.trans htq) hne
                · exact hlt j (by rw [← hlenr]; exact (List.getElem?_eq_some_iff.1 hj).1) (by omega)
              rw [← this]; exact hv
          have hl := hK2.run ms' a w hr2 Q' fun ms'' s' a' w' h1 h2 => ⟨rfl, ms'', s', h1, h2⟩
          refine hexec _ _ (fun a' w' h => Or.inr (Or.inr ⟨fun j => ?_, h⟩)) hl
          show (if j = l1.length then true else S j) = _
          split
          · rename_i e; subst e; simp; omega
          · by_cases hj : j < l1.length
            · rw [hlt' j hj]; simp; omega
            · rw [hno j (by omega)]; simp; omega
    · have hi : m ≤ i := by
        apply Classical.byContradiction; intro hne
        rw [hSm i] at hSi; simp at hSi; omega
      have him : i = m := by
        apply Classical.byContradiction; intro hne
        by_cases hq : i = l1.length
        · omega
        · have := hall S i o hc ho ha (by omega) m (by omega) (by omega)
          rw [hSm m] at this; simp at this
      subst him
      have hdrop : (l1 ++ ost :: l2).drop i = o :: (l1 ++ ost :: l2).drop (i + 1) := by
        have hi := List.getElem?_eq_some_iff.1 ho
        rw [List.drop_eq_getElem_cons hi.1, hi.2]
      rw [hdrop] at hl
      refine hexec _ _ (fun a' w' h => Or.inr (Or.inl ⟨i + 1, by omega, fun j => ?_, h⟩)) hl
      show (if j = i then true else S j) = _
      split
      · rename_i e; subst e; simp
      · rw [hSm j]; simp; omega
    · by_cases hiq : i = q
      · subst hiq
        have heo : o = ⟨some tq, .extract x i0, ty, pos, after, none⟩ := by
          rw [hleft i hql, hlq] at ho; exact (Option.some.inj ho).symm
        subst heo
        refine hexec l2 _ (fun a' w' h => Or.inr (Or.inl ⟨l1.length + 1, by omega, fun j => ?_, by rw [hdk1]; exact h⟩)) hl
        show (if j = i then true else S j) = _
        split
        · rename_i e; subst e; simp; omega
        · rename_i e; rw [hSq j]; simp [e]
      · exfalso
        have hik : l1.length + 1 ≤ i := by
          apply Classical.byContradiction; intro hne
          have := hSq i
          rw [hSi] at this; simp at this; omega
        have := hall S i o hc ho ha (by omega) q (by omega) (by omega)
        rw [hSq q] at this; simp at this
  · intro S a w hS hI
    have fin : ∀ {a w}, Q' .normal a w → ∃ ms' s', Rel w0 A ms' s' a w ∧ Q .normal s' := fun h => h.2
    rcases hI with ⟨hno, hI⟩ | ⟨m, hm', hSm, hl⟩ | ⟨hSq, hl⟩
    · have := hS l1.length (by simp)
      rw [hno _ (Nat.le_refl _)] at this; exact Bool.noConfusion this
    · have hml : (l1 ++ ost :: l2).length ≤ m := by
        apply Classical.byContradiction; intro hne
        have := hS m (by omega)
        rw [hSm m] at this; simp at this
      rw [List.drop_of_length_le hml] at hl
      exact fin hl
    · have := hS q (by simp; omega)
      rw [hSq q] at this; simp at this
/-- The same for the walks: the region's text is cut at its first operation that stores. -/
theorem W_drawTR2 {T : Nat} (_kp : Keep T) (hm : P.follows .mixedOrders = true) (hT : TabOk P tab) (q : Nat) {l l1 l2 : List Oper} {ost : Oper} {id : Nat} {sl sl' : List (Nat × D)} {hp : List Blk} {tq : Tmp} {x : Operand} {i0 : Nat} {ty : TypeId} {pos : String} {after : Array Edge} (e : firstK T sl some = some sl') (hs : splitK l (fun a b => some (a, b)) = some (l1, ost :: l2))
    (hlq : l1[q]? = some ⟨some tq, .extract x i0, ty, pos, after, none⟩) (hok : drawOk l1 = true) (hto : tailOk2 l l1.length q = true)
    (h : DW P w0 A tab l.toArray hp.length n l1 sl' hp fun s => WO P w0 A l.toArray (ost :: l2) s (fun s => Q .normal s) ∧ ∃ sl2, dropTK tq s.slots (fun l => some l) = some sl2 ∧ WO P w0 A l.toArray (ost :: ⟨some tq, .extract x i0, ty, pos, after, none⟩ :: l2) ⟨s.n, sl2, s.heap⟩ fun s => Q .normal s) :
    W P w0 A (.region id l.toArray true) ⟨n, sl, hp⟩ Q := by
  have e := firstK_eq e
  simp only [Option.some.injEq] at e
  subst e
  refine W_weak (s' := ⟨n, firstS T sl, hp⟩) (fun ms a w h => ⟨ms, h.first⟩) ?_
  obtain ⟨a, b, h1, rfl⟩ := splitK_eq hs
  simp only [Option.some.injEq, Prod.mk.injEq] at h1
  obtain ⟨rfl, rfl⟩ := h1
  obtain ⟨rs, h1, h2, h3, sl2, h4, h5⟩ := h.run
  have h4 := dropTK_eq h4
  simp only [Option.some.injEq] at h4
  subst h4
  exact W_drawT2 hm hT q hlq hok hto h1 h2 h3 h5
end
end Go.Proofs.Ytcbfpeplcbgpjaa
namespace Go.Proofs.Ytcbfpeplcbgpjaa
open Go.ChangeShapes Go.WideShapes Go.ChangeAt Go.RowKit

theorem stgIf_bad (x : Stg) (hs : x.start.size ≤ 1048576) (hg : goodStg x = false) : Fn Try.prog 91 [.agg (dStg x)] (.tup [.agg [.lit (.int .i64 0), .nil, .nil, .nil, .lit (.string ⟨#[]⟩)], .lit (.bool false)]) [] := by
  refine Fn_ofC tabOk Try.func91 rfl (by kernel_rfl) rfl rfl ?_
  intro w0 A hin
  have hgood := IsValidSTG_f x hs
  rw [hg] at hgood
  repeat' (first | refine goZ ?_ | refine R_callZ rfl (hgood) rfl rfl rfl ?_ | refine R_callvZ rfl (hgood) rfl rfl rfl rfl ?_ | refine D_callZ rfl (hgood) rfl rfl rfl ?_ | ((first | refine R_cond rfl (fun hq => ?_) fun hq => ?_ | refine R_guardT rfl rfl rfl (fun hq => ?_) fun hq => ?_ | refine R_guardF rfl rfl rfl (fun hq => ?_) fun hq => ?_ | refine D_guardT rfl rfl rfl (fun hq => ?_) fun hq => ?_ | refine D_guardF rfl rfl rfl (fun hq => ?_) fun hq => ?_) <;> (try rw [hq]) <;> first | have hp := of_decide_eq_true hq | have hp := of_decide_eq_false hq | have hp := of_decide_eq_false (not_t hq) | have hp := of_decide_eq_true (not_f hq) | have hp := hq))
  exact .r ⟨_, [], rfl, ⟨⟨rfl, trivial, trivial, trivial, rfl, trivial⟩, rfl, trivial⟩, trivial, List.nodup_nil⟩

theorem stgIf_id (x : Stg) (hs : x.start.size ≤ 1048576) (hg : goodStg x = true) : FnId Try.prog 91 [.agg (dStg x)] := by
  refine ⟨plain_of Try.func91 (by kernel_rfl) (by kernel_rfl), fun w u h => ?_⟩
  obtain ⟨u', e, h1⟩ := vxs_one h
  cases e
  obtain ⟨us, rfl, h2⟩ := h1.agg_inv
  obtain ⟨v0, us0, rfl, p0, t0⟩ := vxs_cons h2
  obtain ⟨v1, us1, rfl, p1, t1⟩ := vxs_cons t0
  obtain ⟨v2, us2, rfl, p2, t2⟩ := vxs_cons t1
  obtain ⟨v3, us3, rfl, p3, t3⟩ := vxs_cons t2
  obtain ⟨v4, rfl, p4⟩ := vxs_one t3
  have one : ∀ {m : Nat} {xs : List (List D)} {v : Value}, VX [] w (Lt w) (.sh m xs) v → ∃ a n c, v = .slice a n c := by
    intro m xs v h
    obtain ⟨b, q, _⟩ := h.sh_inv
    cases q <;> exact ⟨_, _, _, rfl⟩
  obtain ⟨rfl, _⟩ := p0.lit_inv
  obtain ⟨rfl, _⟩ := p4.lit_inv
  obtain ⟨a1, n1, c1, rfl⟩ := one p1
  obtain ⟨a2, n2, c2, rfl⟩ := one p2
  obtain ⟨a3, n3, c3, rfl⟩ := one p3
  have hE0 : Ext w ((w.alloc (.cells #[.int .i64 x.net.places, .slice a1 n1 c1, .slice a2 n2 c2, .slice a3 n3 c3, .string x.start] 69)).alloc (.cells #[.int .i64 0, .slice none 0 0, .slice none 0 0, .slice none 0 0, .string ⟨#[]⟩] 69)) := ((Ext.refl w).alloc _).alloc _
  have HC := Lib.hid ((IsValidSTG_f x hs).lit (VXs.mono (ms' := []) (Ok' := Lt _) (fun k hk => ⟨hE0.block k hk, Nat.lt_of_lt_of_le hk hE0.size⟩) h fun _ _ _ h => h))
  clear h h1 h2 t0 t1 t2 t3 p0 p1 p2 p3 p4 one
  show Calls Try.prog 91 #[.agg #[.int .i64 x.net.places, .slice a1 n1 c1, .slice a2 n2 c2, .slice a3 n3 c3, .string x.start]] w _
  go_enter Try.func91, Try.ntmps91
  go_wp2_with fail
  refine HC.out.mono ?_
  rintro e w1 ⟨rfl, hx⟩
  rw [hg]
  obtain ⟨hk, hf⟩ := hx.cells
  simp only [World.size_alloc] at hk hf
  have hc0 : w1.cell? ⟨w.heap.size + 1, 0, none⟩ = some (.int .i64 0) := by rw [hk _ _ (by omega)]; simp
  have hc1 : w1.cell? ⟨w.heap.size + 1, 1, none⟩ = some (.slice none 0 0) := by rw [hk _ _ (by omega)]; simp
  have hc2 : w1.cell? ⟨w.heap.size + 1, 2, none⟩ = some (.slice none 0 0) := by rw [hk _ _ (by omega)]; simp
  have hc3 : w1.cell? ⟨w.heap.size + 1, 3, none⟩ = some (.slice none 0 0) := by rw [hk _ _ (by omega)]; simp
  have hc4 : w1.cell? ⟨w.heap.size + 1, 4, none⟩ = some (.string ⟨#[]⟩) := by rw [hk _ _ (by omega)]; simp
  go_wp2
  have g : ∀ {W : World} {b o o' : Nat} {v u : Value}, W.cell? ⟨b, o, none⟩ = some u → (W.setCell ⟨b, o', none⟩ v).cell? ⟨b, o, none⟩ = some (if o = o' then v else u) := by
    intro W b o o' v u h
    by_cases e : o = o'
    · subst e; rw [if_pos rfl]; exact World.cell?_setCell_same _ _ _ h
    · rw [if_neg e]; exact (World.cell?_setCell_other _ _ _ _ (by first | (simp; done) | (simp; omega))).trans h
  refine bodyPost_ret (v := .tuple #[.agg #[.int .i64 x.net.places, .slice a1 n1 c1, .slice a2 n2 c2, .slice a3 n3 c3, .string x.start], .bool true]) ?_ rfl ⟨rfl, Ext.setCell (Ext.setCell (Ext.setCell (Ext.setCell (Ext.setCell (hE0.trans hx) (by simp) _) (by simp) _) (by simp) _) (by simp) _) (by simp) _⟩
  rw [results_cell_tmp rfl]
  have hld := loadVar_tab (P := Try.prog) tabOk (T := 69) rfl (((((w1.setCell ⟨w.heap.size + 1, 0, none⟩ (.int .i64 x.net.places)).setCell ⟨w.heap.size + 1, 1, none⟩ (.slice a1 n1 c1)).setCell ⟨w.heap.size + 1, 2, none⟩ (.slice a2 n2 c2)).setCell ⟨w.heap.size + 1, 3, none⟩ (.slice a3 n3 c3)).setCell ⟨w.heap.size + 1, 4, none⟩ (.string x.start)) (w.heap.size + 1) [.int .i64 x.net.places, .slice a1 n1 c1, .slice a2 n2 c2, .slice a3 n3 c3, .string x.start] rfl (by
    intro j v hv
    match j with
    | 0 => simp at hv; subst hv; simpa using g (o' := 4) (g (o' := 3) (g (o' := 2) (g (o' := 1) (g (o' := 0) hc0))))
    | 1 => simp at hv; subst hv; simpa using g (o' := 4) (g (o' := 3) (g (o' := 2) (g (o' := 1) (g (o' := 0) hc1))))
    | 2 => simp at hv; subst hv; simpa using g (o' := 4) (g (o' := 3) (g (o' := 2) (g (o' := 1) (g (o' := 0) hc2))))
    | 3 => simp at hv; subst hv; simpa using g (o' := 4) (g (o' := 3) (g (o' := 2) (g (o' := 1) (g (o' := 0) hc3))))
    | 4 => simp at hv; subst hv; simpa using g (o' := 4) (g (o' := 3) (g (o' := 2) (g (o' := 1) (g (o' := 0) hc4))))
    | j + 5 => simp at hv)
  simp [asAddr, Result.andThen, hld]
end Go.Proofs.Ytcbfpeplcbgpjaa
namespace Go.Proofs.Ytcbfpeplcbgpjaa
open Go.ChangeShapes Go.WideShapes Go.ChangeAt Go.RowKit

def shLab (n : Nat) (x : Lab) : Lab := if 0 ≤ x.sig then ⟨x.sig + n, x.up⟩ else x
def uniL (a b : Stg) (j : Nat) : List Lab := a.labels ++ (b.labels.take j).map (shLab a.signals.length)
def uniS (a b : Stg) : Stg := ⟨uniN a.net b.net, a.signals ++ b.signals, uniL a b b.labels.length, a.start ++ b.start⟩
noncomputable def usB (a b : Stg) : Bool := (goodStg a && goodStg b) && goodStg (uniS a b)
noncomputable def usR (a b : Stg) : Stg := if usB a b then uniS a b else noStg
theorem usR_no {a b : Stg} (h : usB a b = false) : usR a b = noStg := by simp [usR, h]
theorem usR_yes {a b : Stg} (h : usB a b = true) : usR a b = uniS a b := by simp [usR, h]
theorem uniL_next {a b : Stg} {j : Nat} (h : j < b.labels.length) : uniL a b (j + 1) = uniL a b j ++ [shLab a.signals.length (nth b.labels j)] := by
  unfold uniL; rw [take_nth h, List.map_append, List.append_assoc]; rfl
theorem uniL_zero (a b : Stg) : uniL a b 0 = a.labels := by simp [uniL]
theorem uniL_map {a b : Stg} {j : Nat} (h : j < b.labels.length) : (uniL a b (j + 1)).map dLab = (uniL a b j).map dLab ++ [dLab (shLab a.signals.length (nth b.labels j))] := by
  rw [uniL_next h, List.map_append]; rfl
theorem shLab_up {n : Nat} {x : Lab} (h : 0 ≤ x.sig) : shLab n x = ⟨x.sig + n, x.up⟩ := by simp [shLab, h]
theorem shLab_no {n : Nat} {x : Lab} (h : ¬ 0 ≤ x.sig) : shLab n x = x := by simp [shLab, h]
structure StgOk (s : Stg) : Prop where
  net : NetOk s.net
  sigs : s.signals.length ≤ 8
  labs : s.labels.length ≤ 24
  lab : ∀ x ∈ s.labels, -1 ≤ x.sig ∧ x.sig ≤ 8
  start : s.start.size ≤ 100
theorem StgOk.of {s : Stg} (h : goodStg s = true) (hz : szStg s ≤ 1048576) : StgOk s := by
  obtain ⟨hN, _, _, _⟩ := stg_ok h hz
  have h' := h
  simp only [goodStg, goodMark, bitsB, sigsB, Bool.and_eq_true, decide_eq_true_eq, List.all_eq_true, labB, Bool.or_eq_true] at h'
  have hp := hN.places
  have hl := hN.len
  obtain ⟨⟨h1, h2⟩, ⟨_, h3⟩, h4, h5⟩ := h'
  refine ⟨hN, by omega, by omega, fun x hx => ?_, by omega⟩
  rcases h5 x hx with h | ⟨h, _⟩ <;> omega
end Go.Proofs.Ytcbfpeplcbgpjaa
namespace Go.Proofs.Ytcbfpeplcbgpjaa
open Go.ChangeShapes Go.WideShapes Go.ChangeAt Go.RowKit

set_option maxHeartbeats 4000000 in
theorem UnionSTGs_f (a b : Stg) (hza : szStg a ≤ 1048576) (hzb : szStg b ≤ 1048576) : Fn Try.prog 32 [.agg (dStg a), .agg (dStg b)] (.tup [.agg [.lit (.int .i64 (usR a b).net.places), .own 0, .own 1, .own 2, .lit (.string (usR a b).start)], .lit (.bool (usB a b))]) [.arr 88 2 ((usR a b).net.trs.map dTr) true, .arr 132 2 ((usR a b).signals.map dSig) true, .arr 105 2 ((usR a b).labels.map dLab) true] := by
  refine Fn_ofC tabOk Try.func32 rfl (by kernel_rfl) rfl rfl ?_
  intro w0 A hin
  have hza1 := len_dSig a.signals; have hzb1 := len_dSig b.signals
  have hza2 := len_dLab a.labels; have hzb2 := len_dLab b.labels
  have hsa : a.start.size ≤ 1048576 := by have := hza; simp only [szStg] at this; omega
  have hsb : b.start.size ≤ 1048576 := by have := hzb; simp only [szStg] at this; omega
  have hVa := IsValidSTG_f a hsa
  have hVb := IsValidSTG_f b hsb
  cases hga : goodStg a <;> rw [hga] at hVa
  · have hb : usB a b = false := by simp [usB, hga]
    have hr := usR_no hb
    repeat' (first | refine goZ ?_ | refine R_callZ rfl (hVa) rfl rfl rfl ?_ | refine R_callvZ rfl (hVa) rfl rfl rfl rfl ?_ | refine D_callZ rfl (hVa) rfl rfl rfl ?_ | ((first | refine R_cond rfl (fun hq => ?_) fun hq => ?_ | refine R_guardT rfl rfl rfl (fun hq => ?_) fun hq => ?_ | refine R_guardF rfl rfl rfl (fun hq => ?_) fun hq => ?_ | refine D_guardT rfl rfl rfl (fun hq => ?_) fun hq => ?_ | refine D_guardF rfl rfl rfl (fun hq => ?_) fun hq => ?_) <;> (try rw [hq]) <;> first | have hp := of_decide_eq_true hq | have hp := of_decide_eq_false hq | have hp := of_decide_eq_false (not_t hq) | have hp := of_decide_eq_true (not_f hq) | have hp := hq))
    all_goals exact .r (retC_nil3t rfl (by rw [hr]; rfl) (by rw [hr]; rfl) (by rw [hb]) (by rw [hr]; rfl) (by rw [hr]; rfl) (by rw [hr]; rfl))
  cases hgb : goodStg b <;> rw [hgb] at hVb
  · have hb : usB a b = false := by simp [usB, hgb]
    have hr := usR_no hb
    repeat' (first | refine goZ ?_ | refine R_callZ rfl (hVa) rfl rfl rfl ?_ | refine R_callZ rfl (hVb) rfl rfl rfl ?_ | refine R_callvZ rfl (hVa) rfl rfl rfl rfl ?_ | refine R_callvZ rfl (hVb) rfl rfl rfl rfl ?_ | refine D_callZ rfl (hVa) rfl rfl rfl ?_ | refine D_callZ rfl (hVb) rfl rfl rfl ?_ | ((first | refine R_cond rfl (fun hq => ?_) fun hq => ?_ | refine R_guardT rfl rfl rfl (fun hq => ?_) fun hq => ?_ | refine R_guardF rfl rfl rfl (fun hq => ?_) fun hq => ?_ | refine D_guardT rfl rfl rfl (fun hq => ?_) fun hq => ?_ | refine D_guardF rfl rfl rfl (fun hq => ?_) fun hq => ?_) <;> (try rw [hq]) <;> first | have hp := of_decide_eq_true hq | have hp := of_decide_eq_false hq | have hp := of_decide_eq_false (not_t hq) | have hp := of_decide_eq_true (not_f hq) | have hp := hq))
    all_goals exact .r (retC_nil3t rfl (by rw [hr]; rfl) (by rw [hr]; rfl) (by rw [hb]) (by rw [hr]; rfl) (by rw [hr]; rfl) (by rw [hr]; rfl))
  have ha := StgOk.of hga hza; have hb := StgOk.of hgb hzb
  have ha1 := ha.sigs; have ha2 := ha.labs; have ha3 := ha.start; have hb1 := hb.sigs; have hb2 := hb.labs; have hb3 := hb.start
  have hC := ConcatS_f a.signals b.signals (by omega) (by omega)
  repeat' (first | refine W_drawTS mixed tabOk rfl rfl rfl ?_ | refine go1 ?_ | refine R_callZ rfl (hVa) rfl rfl rfl ?_ | refine R_callZ rfl (hVb) rfl rfl rfl ?_ | refine R_callZ rfl (unionNets_f a.net b.net ha.net hb.net) rfl rfl rfl ?_ | refine R_callZ rfl (Clone_Lab_f a.labels (by omega)) rfl rfl rfl ?_ | refine R_callvZ rfl (hVa) rfl rfl rfl rfl ?_ | refine R_callvZ rfl (hVb) rfl rfl rfl rfl ?_ | refine R_callvZ rfl (unionNets_f a.net b.net ha.net hb.net) rfl rfl rfl rfl ?_ | refine R_callvZ rfl (Clone_Lab_f a.labels (by omega)) rfl rfl rfl rfl ?_ | refine D_callZ rfl (hVa) rfl rfl rfl ?_ | refine D_callZ rfl (hVb) rfl rfl rfl ?_ | refine D_callZ rfl (unionNets_f a.net b.net ha.net hb.net) rfl rfl rfl ?_ | refine D_callZ rfl (Clone_Lab_f a.labels (by omega)) rfl rfl rfl ?_ | refine D_callxZ rfl (hC) rfl rfl rfl rfl (by repeat' (first | exact trivial | rfl | refine And.intro ?_ ?_)) ?_ | ((first | refine R_cond rfl (fun hq => ?_) fun hq => ?_ | refine R_guardT rfl rfl rfl (fun hq => ?_) fun hq => ?_ | refine R_guardF rfl rfl rfl (fun hq => ?_) fun hq => ?_ | refine D_guardT rfl rfl rfl (fun hq => ?_) fun hq => ?_ | refine D_guardF rfl rfl rfl (fun hq => ?_) fun hq => ?_) <;> (try rw [hq]) <;> first | have hp := of_decide_eq_true hq | have hp := of_decide_eq_false hq | have hp := of_decide_eq_false (not_t hq) | have hp := of_decide_eq_true (not_f hq) | have hp := hq))
  refine W_loop (fun i : Nat => ⟨_, [(2, .ptr 0 0), (3, .ptr 1 0), (4, .ptr 2 0), (6, .ptr 7 0), (39, .sh 2 (b.labels.map dLab)), (40, .lit (.int .i64 b.labels.length)), (41, .lit (.int .i64 i))], [.cells 69 (dStg a), .cells 69 (dStg b), .cells 69 [.lit (.int .i64 0), .nil, .nil, .nil, .lit (.string ⟨#[]⟩)], .arr 88 2 ((uniN a.net b.net).trs.map dTr) true, .arr 43 1 [[.sh 2 (a.signals.map dSig)], [.sh 2 (b.signals.map dSig)]] false, .arr 132 2 ((a.signals ++ b.signals).map dSig) true, .arr 105 2 ((uniL a b i).map dLab) true, .cells 69 [.lit (.int .i64 (uniN a.net b.net).places), .own 3, .own 5, .own 6, .lit (.string (a.start ++ b.start))]]⟩) (fun i => i ≤ b.labels.length) (fun i => b.labels.length - i) 0 (Nat.zero_le _) (by rw [uniL_zero]; first | exact weakZ [] | (rw [hzb2]; exact weakZ [])) ?_
  intro i hi
  have hbl : i < b.labels.length → _ := fun h => hb.lab _ (nth_mem h)
  have hul : (uniL a b i).length ≤ 48 := by simp [uniL]; omega
  have hul2 := len_dLab (uniL a b i)
  repeat' (first | refine goZ ?_ | ((first | refine R_cond rfl (fun hq => ?_) fun hq => ?_ | refine R_guardT rfl rfl rfl (fun hq => ?_) fun hq => ?_ | refine R_guardF rfl rfl rfl (fun hq => ?_) fun hq => ?_ | refine D_guardT rfl rfl rfl (fun hq => ?_) fun hq => ?_ | refine D_guardF rfl rfl rfl (fun hq => ?_) fun hq => ?_) <;> (try rw [hq]) <;> first | have hp := of_decide_eq_true hq | have hp := of_decide_eq_false hq | have hp := of_decide_eq_false (not_t hq) | have hp := of_decide_eq_true (not_f hq) | have hp := hq))
  · refine ⟨i + 1, by omega, by omega, ?_⟩
    rw [uniL_map (show i < b.labels.length by omega), shLab_up (by first | assumption | simp_all), hza1]
    exact weakZ _
  · refine ⟨i + 1, by omega, by omega, ?_⟩
    rw [uniL_map (show i < b.labels.length by omega), shLab_no (by first | assumption | simp_all)]
    exact weakZ _
  have ei : i = b.labels.length := by omega
  subst ei
  have hst : (uniS a b).start.size ≤ 1048576 := by simp only [uniS, ByteArray.size_append]; omega
  cases hgo : goodStg (uniS a b)
  · have hbad := stgIf_bad (uniS a b) hst hgo
    have hb : usB a b = false := by simp [usB, hgo]
    have hr := usR_no hb
    repeat' (first | refine goZ ?_ | refine R_callZ rfl (hbad) rfl rfl rfl ?_ | refine R_callvZ rfl (hbad) rfl rfl rfl rfl ?_ | refine D_callZ rfl (hbad) rfl rfl rfl ?_ | ((first | refine R_cond rfl (fun hq => ?_) fun hq => ?_ | refine R_guardT rfl rfl rfl (fun hq => ?_) fun hq => ?_ | refine R_guardF rfl rfl rfl (fun hq => ?_) fun hq => ?_ | refine D_guardT rfl rfl rfl (fun hq => ?_) fun hq => ?_ | refine D_guardF rfl rfl rfl (fun hq => ?_) fun hq => ?_) <;> (try rw [hq]) <;> first | have hp := of_decide_eq_true hq | have hp := of_decide_eq_false hq | have hp := of_decide_eq_false (not_t hq) | have hp := of_decide_eq_true (not_f hq) | have hp := hq))
    all_goals first
      | exact .n (retC_nil3t rfl (by rw [hr]; rfl) (by rw [hr]; rfl) (by rw [hb]) (by rw [hr]; rfl) (by rw [hr]; rfl) (by rw [hr]; rfl))
      | exact .r (retC_nil3t rfl (by rw [hr]; rfl) (by rw [hr]; rfl) (by rw [hb]) (by rw [hr]; rfl) (by rw [hr]; rfl) (by rw [hr]; rfl))
  · have hid := stgIf_id (uniS a b) hst hgo
    have hb : usB a b = true := by simp [usB, hga, hgb, hgo]
    have hr := usR_yes hb
    repeat' (first | refine goZ ?_ | refine R_callId rfl hid rfl rfl rfl ?_ | ((first | refine R_cond rfl (fun hq => ?_) fun hq => ?_ | refine R_guardT rfl rfl rfl (fun hq => ?_) fun hq => ?_ | refine R_guardF rfl rfl rfl (fun hq => ?_) fun hq => ?_ | refine D_guardT rfl rfl rfl (fun hq => ?_) fun hq => ?_ | refine D_guardF rfl rfl rfl (fun hq => ?_) fun hq => ?_) <;> (try rw [hq]) <;> first | have hp := of_decide_eq_true hq | have hp := of_decide_eq_false hq | have hp := of_decide_eq_false (not_t hq) | have hp := of_decide_eq_true (not_f hq) | have hp := hq))
    all_goals first
      | exact .n (retC_own3t rfl rfl rfl rfl (by simp) (by rw [hr]; try rfl) (by rw [hr]; try rfl) (by rw [hb]) (by rw [hr]; try rfl) (by rw [hr]; try rfl) (by rw [hr]; try rfl))
      | exact .r (retC_own3t rfl rfl rfl rfl (by simp) (by rw [hr]; try rfl) (by rw [hr]; try rfl) (by rw [hb]) (by rw [hr]; try rfl) (by rw [hr]; try rfl) (by rw [hr]; try rfl))

theorem usR_le (a b : Stg) : ((cntTrs (usR a b).net.trs ≤ szStg a + szStg b ∧ (usR a b).net.trs.length ≤ 24) ∧ (usR a b).signals.length ≤ 8 ∧ (usR a b).labels.length ≤ 24) ∧ -9223372036854775808 ≤ (usR a b).net.places ∧ (usR a b).net.places ≤ 9223372036854775807 := by
  cases hb : usB a b
  · rw [usR_no hb]; simp [noStg, cntTrs]
  · rw [usR_yes hb]
    simp only [usB, Bool.and_eq_true] at hb
    obtain ⟨h1, h2⟩ := stg_le (t := uniS a b) hb.2 rfl rfl rfl
    have ea : szNetD a.net = a.net.trs.length + cntTrs a.net.trs := rfl
    have eb : szNetD b.net = b.net.trs.length + cntTrs b.net.trs := rfl
    have h0 : cntTrs (uniN a.net b.net).trs ≤ szNetD a.net + szNetD b.net := by
      simp only [uniN, uniT, List.take_length, cnt_append, cnt_shift]; omega
    have sa : szNetD a.net ≤ szStg a := by simp only [szStg]; omega
    have sb : szNetD b.net ≤ szStg b := by simp only [szStg]; omega
    refine ⟨⟨⟨?_, h1.1.2⟩, h1.2⟩, h2⟩
    show cntTrs (uniN a.net b.net).trs ≤ _
    omega
end Go.Proofs.Ytcbfpeplcbgpjaa
namespace Go.Proofs.Ytcbfpeplcbgpjaa
open Go.ChangeShapes Go.WideShapes Go.ChangeAt Go.RowKit

/-- The array lies there, its slice the value u. -/
def ArrU (base : Nat) (u : Value) (T : TypeId) (m : Nat) (xs : List (List D)) (w : World) (v : Value) (top : Option Nat) (nest : List Nat) : Prop :=
  v = u ∧ ∃ us bs, w.ownsRow base T m v xs.length us ∧ (∀ r ∈ xs, r.length = m) ∧ VRs w xs.flatten us bs ∧ top = v.ownBlock ∧ nest = bs ∧ ∀ k ∈ bs, Un w k
section
variable {P : Program} {tab : Nat → Option TI} {w0 w w' : World} {A : Nat → Prop} {n : Nat} {sl : List (Nat × D)} {hp : List Blk} {ms : List Ent} {a : Act}
theorem ArrU.keep {base : Nat} {u v : Value} {T : TypeId} {m : Nat} {xs : List (List D)} {top : Option Nat} {nest : List Nat} (h : ArrU base u T m xs w v top nest) (hk : ∀ k ∈ top.toList ++ nest, w'.heap[k]? = w.heap[k]?) : ArrU base u T m xs w' v top nest := by
  obtain ⟨rfl, us, bs, h1, h2, h3, h4, h5, h6⟩ := h
  refine ⟨rfl, us, bs, ownsRow_keep h1 fun k hk' => hk k ?_, h2, h3.keep fun k hk' => hk k ?_, h4, h5, fun k hk' => (h6 k hk').keep (hk k ?_)⟩
  · rw [h4, hk']; simp
  · rw [h5]; exact List.mem_append_right _ hk'
  · rw [h5]; exact List.mem_append_right _ hk'
theorem Rel.pinO (hr : Rel w0 A ms ⟨n, sl, hp⟩ a w) {i c o m : Nat} {T Tc : TypeId} {xs : List (List D)} {ds : List D} (hb : hp[i]? = some (.arr T m xs true)) (hc : hp[c]? = some (.cells Tc ds)) (ho : ds[o]? = some (.own i)) : ∃ u, litOk u ∧ Rel w0 A ms ⟨n, sl, (hp.set i (.cust (ArrU w0.heap.size u T m xs))).set c (.cells Tc (ds.set o (.lit u)))⟩ a w := by
  have hil : i < ms.length := by rw [hr.len]; exact (List.getElem?_eq_some_iff.1 hb).1
  obtain ⟨e, hi⟩ : ∃ e, ms[i]? = some e := ⟨_, List.getElem?_eq_getElem hil⟩
  have hE := hr.ents i _ e hb hi
  have hlit : litOk e.v := by
    obtain ⟨us, bs, ⟨_, ⟨h, _⟩ | ⟨g, cap, cur, h, _⟩⟩, _⟩ := hE <;> rw [h] <;> exact trivial
  have hcl : c < hp.length := (List.getElem?_eq_some_iff.1 hc).1
  have hic : i ≠ c := by intro e'; subst e'; rw [hb] at hc; cases hc
  refine ⟨e.v, hlit, hr.ext, hr.old, hr.size, hr.defers, by simpa using hr.len, hr.nodup, hr.range, fun j b x hj hx => ?_, hr.slots⟩
  simp only at hj
  by_cases hjc : j = c
  · subst hjc
    rw [List.getElem?_set_self (by simpa using hcl)] at hj
    cases hj
    obtain ⟨b1, us, q1, q2, q3⟩ := hr.ents j _ x hc hx
    refine ⟨b1, us, q1, q2, ?_⟩
    obtain ⟨u, q4, q5⟩ := q3.get ho
    obtain ⟨e2, p1, p2, _⟩ := q5.own_inv
    rw [hi] at p1; cases p1
    subst p2
    have q6 := q3.set o (d := .lit e.v) (VX.of_lit (ms := ms) (w := w) (Ok := OkB w0.heap.size A ms w) hlit)
    have q7 : us.set o e.v = us := by
      obtain ⟨hlt, he⟩ := List.getElem?_eq_some_iff.1 q4
      rw [← he]; exact List.set_getElem_self hlt
    rwa [q7] at q6
  · rw [List.getElem?_set_ne (Ne.symm hjc)] at hj
    by_cases hji : j = i
    · subst hji
      rw [List.getElem?_set_self (List.getElem?_eq_some_iff.1 hb).1] at hj
      cases hj
      rw [hi] at hx; cases hx
      obtain ⟨us, bs, o1, o2, o3, o4, o5⟩ := hE
      have hR : ArrU w0.heap.size e.v T m xs w e.v e.top e.nest := ⟨rfl, us, bs, o1, o2, o3, o4, o5.1, o5.2⟩
      exact ⟨hR, fun w' hk => hR.keep hk⟩
    · rw [List.getElem?_set_ne (Ne.symm hji)] at hj
      exact hr.ents j b x hj hx
theorem W_pinO {code : Code} {Q : Exit → St → Prop} (i c o : Nat) {m : Nat} {T Tc : TypeId} {xs : List (List D)} {ds : List D} (hb : hp[i]? = some (.arr T m xs true)) (hc : hp[c]? = some (.cells Tc ds)) (ho : ds[o]? = some (.own i)) (h : ∀ u, litOk u → W P w0 A code ⟨n, sl, (hp.set i (.cust (ArrU w0.heap.size u T m xs))).set c (.cells Tc (ds.set o (.lit u)))⟩ Q) : W P w0 A code ⟨n, sl, hp⟩ Q := by
  refine ⟨fun ms a w hr => ?_⟩
  obtain ⟨u, h1, h2⟩ := hr.pinO hb hc ho
  exact (h u h1).run ms a w h2
theorem Rel.unpinO (hr : Rel w0 A ms ⟨n, sl, hp⟩ a w) {i c o m : Nat} {T Tc : TypeId} {xs : List (List D)} {ds : List D} {u : Value} (hb : hp[i]? = some (.cust (ArrU w0.heap.size u T m xs))) (hc : hp[c]? = some (.cells Tc ds)) (ho : ds[o]? = some (.lit u)) : Rel w0 A ms ⟨n, sl, (hp.set i (.arr T m xs true)).set c (.cells Tc (ds.set o (.own i)))⟩ a w := by
  have hil : i < ms.length := by rw [hr.len]; exact (List.getElem?_eq_some_iff.1 hb).1
  obtain ⟨e, hi⟩ : ∃ e, ms[i]? = some e := ⟨_, List.getElem?_eq_getElem hil⟩
  obtain ⟨⟨hv, us, bs, o1, o2, o3, o4, o5, o6⟩, _⟩ := hr.ents i _ e hb hi
  have hcl : c < hp.length := (List.getElem?_eq_some_iff.1 hc).1
  have hsl : ∃ a n c, e.v = .slice a n c := by
    obtain ⟨_, ⟨h, _⟩ | ⟨g, cap, cur, h, _⟩⟩ := o1 <;> exact ⟨_, _, _, h⟩
  refine ⟨hr.ext, hr.old, hr.size, hr.defers, by simpa using hr.len, hr.nodup, hr.range, fun j b x hj hx => ?_, hr.slots⟩
  simp only at hj
  by_cases hjc : j = c
  · subst hjc
    rw [List.getElem?_set_self (by simpa using hcl)] at hj
    cases hj
    obtain ⟨b1, us1, q1, q2, q3⟩ := hr.ents j _ x hc hx
    refine ⟨b1, us1, q1, q2, ?_⟩
    obtain ⟨u', q4, q5⟩ := q3.get ho
    obtain ⟨rfl, _⟩ := q5.lit_inv
    have q6 := q3.set o (d := .own i) (u := u') (by rw [← hv]; exact VX.own hi hsl)
    have q7 : us1.set o u' = us1 := by
      obtain ⟨hlt, he⟩ := List.getElem?_eq_some_iff.1 q4
      rw [← he]; exact List.set_getElem_self hlt
    rwa [q7] at q6
  · rw [List.getElem?_set_ne (Ne.symm hjc)] at hj
    by_cases hji : j = i
    · subst hji
      rw [List.getElem?_set_self (List.getElem?_eq_some_iff.1 hb).1] at hj
      cases hj
      rw [hi] at hx; cases hx
      exact ⟨us, bs, o1, o2, o3, o4, by rw [if_pos rfl]; exact ⟨o5, o6⟩⟩
    · rw [List.getElem?_set_ne (Ne.symm hji)] at hj
      exact hr.ents j b x hj hx
theorem W_unpinO {code : Code} {Q : Exit → St → Prop} (i c o : Nat) {m : Nat} {T Tc : TypeId} {xs : List (List D)} {ds : List D} {u : Value} (hb : hp[i]? = some (.cust (ArrU w0.heap.size u T m xs))) (hc : hp[c]? = some (.cells Tc ds)) (ho : ds[o]? = some (.lit u)) (h : W P w0 A code ⟨n, sl, (hp.set i (.arr T m xs true)).set c (.cells Tc (ds.set o (.own i)))⟩ Q) : W P w0 A code ⟨n, sl, hp⟩ Q :=
  ⟨fun ms a w hr => h.run ms a w (hr.unpinO hb hc ho)⟩
/-- A function that is handed two graphs; their slices are known as values, and as what they read as at the call. -/
theorem Fn_stg2 {f : FuncId} {fn : Func} {c : Code} {d : D} {rh : List Blk} (s t : Stg) (hT : TabOk P tab) (hf : P.funcs[f]? = some fn) (hb : fn.body = some c) (hname : (fn.name == "runtime.NumGoroutine") = false) (hn : Nat.ble 2 fn.ntmps = true) (hrh : rh.all Blk.isArr = true)
    (h : ∀ w0 A (u1 u2 u3 v1 v2 v3 : Value), (∃ b, VR w0 (.sh 2 (s.net.trs.map dTr)) u1 b ∧ ∀ k ∈ b, A k) → (∃ b, VR w0 (.sh 2 (s.signals.map dSig)) u2 b ∧ ∀ k ∈ b, A k) → (∃ b, VR w0 (.sh 2 (s.labels.map dLab)) u3 b ∧ ∀ k ∈ b, A k) →
      (∃ b, VR w0 (.sh 2 (t.net.trs.map dTr)) v1 b ∧ ∀ k ∈ b, A k) → (∃ b, VR w0 (.sh 2 (t.signals.map dSig)) v2 b ∧ ∀ k ∈ b, A k) → (∃ b, VR w0 (.sh 2 (t.labels.map dLab)) v3 b ∧ ∀ k ∈ b, A k) →
      W P w0 A c ⟨fn.ntmps, argSlots 0 [.agg [.lit (.int .i64 s.net.places), .lit u1, .lit u2, .lit u3, .lit (.string s.start)], .agg [.lit (.int .i64 t.net.places), .lit v1, .lit v2, .lit v3, .lit (.string t.start)]], []⟩ (retC tab fn.results d rh)) : Fn P f [.agg (dStg s), .agg (dStg t)] d rh := by
  refine ⟨?_, hrh, ?_⟩
  · intro args w
    have h1 : ¬ fn.name = "runtime.NumGoroutine" := by simpa using hname
    have h2 : ¬ fn.body = none := by rw [hb]; simp
    simp [callFunc, program, Sem.run, go_sem, hf, h1, h2]
  · intro A w us hA hus
    have hl := hus.len
    have hn' : 2 ≤ fn.ntmps := Nat.le_of_ble_eq_true hn
    obtain ⟨x, us', rfl, hx, hy⟩ := vxs_cons hus
    obtain ⟨y, rfl, hz⟩ := vxs_one hy
    have open5 : ∀ {s : Stg} {x : Value}, VX [] w A (.agg (dStg s)) x → ∃ u1 u2 u3, (∃ b, VR w (.sh 2 (s.net.trs.map dTr)) u1 b ∧ ∀ k ∈ b, A k) ∧ (∃ b, VR w (.sh 2 (s.signals.map dSig)) u2 b ∧ ∀ k ∈ b, A k) ∧ (∃ b, VR w (.sh 2 (s.labels.map dLab)) u3 b ∧ ∀ k ∈ b, A k) ∧ VX [] w A (.agg [.lit (.int .i64 s.net.places), .lit u1, .lit u2, .lit u3, .lit (.string s.start)]) x := by
      intro s x hx
      obtain ⟨us, rfl, hw⟩ := hx.agg_inv
      obtain ⟨v0, us0, rfl, p0, t0⟩ := vxs_cons hw
      obtain ⟨v1, us1, rfl, p1, t1⟩ := vxs_cons t0
      obtain ⟨v2, us2, rfl, p2, t2⟩ := vxs_cons t1
      obtain ⟨v3, us3, rfl, p3, t3⟩ := vxs_cons t2
      obtain ⟨v4, rfl, p4⟩ := vxs_one t3
      obtain ⟨b1, q1, a1⟩ := p1.sh_inv
      obtain ⟨b2, q2, a2⟩ := p2.sh_inv
      obtain ⟨b3, q3, a3⟩ := p3.sh_inv
      exact ⟨v1, v2, v3, ⟨b1, q1, a1⟩, ⟨b2, q2, a2⟩, ⟨b3, q3, a3⟩, .agg (us := [v0, v1, v2, v3, v4]) (.cons p0 (.cons (VX.of_lit (vr_lit q1)) (.cons (VX.of_lit (vr_lit q2)) (.cons (VX.of_lit (vr_lit q3)) (.cons p4 .nil)))))⟩
    obtain ⟨u1, u2, u3, g1, g2, g3, hx'⟩ := open5 hx
    obtain ⟨v1, v2, v3, k1, k2, k3, hy'⟩ := open5 hz
    refine calls_of_wp hf hb (Code.wp_mono ?_ ((h w A u1 u2 u3 v1 v2 v3 g1 g2 g3 k1 k2 k3).run [] { tmps := [x, y].toArray ++ Array.replicate (fn.ntmps - [x, y].toArray.size) undef, defers := [] } w ?_))
    · rintro e a' w' ⟨ms, s, hr, hq⟩
      have key : RetC tab fn.results d rh s → a'.defers = [] ∧ ∃ v, (results fn a'.tmps).run P w' = .ok v w' ∧ ∃ v' ms, Ending.returned v = .returned v' ∧ Post w A d rh ms v' w' := by
        rintro ⟨dd, js, h1, h2, h3, h4⟩
        obtain ⟨v, h5, h6⟩ := resultsC_ok (P := P) hT h1 hr
        exact ⟨hr.defers, v, h5, v, _, rfl, hr.post h3 h4 h6 h2⟩
      cases hq with
      | r h => exact key h
      | n h => exact key h
    · refine ⟨Ext.refl _, hA, by simp; omega, rfl, rfl, by simp [owned], by simp [owned], by simp, fun t => ?_⟩
      refine look_arg (List.replicate (fn.ntmps - [x, y].length) undef) (VXs.mono (ms' := []) (w' := w) (Ok' := OkB w.heap.size A [] w) (fun k hk => ⟨rfl, hA k hk, Or.inr hk, by simp [tops]⟩) (VXs.cons hx' (VXs.cons hy' .nil)) fun _ _ _ h => h) 0 t _ fun _ => ?_
      have e : ([x, y].toArray ++ Array.replicate (fn.ntmps - [x, y].toArray.size) undef) = ([x, y] ++ List.replicate (fn.ntmps - [x, y].length) undef).toArray := by
        rw [← List.append_toArray, List.size_toArray, List.toArray_replicate]
      rw [e]; simp [Array.getD_eq_getD_getElem?, List.getD_eq_getElem?_getD]
theorem WO_unpin5 {ops : Array Oper} {l : List Oper} {K : St → Prop} (t : Nat) {p v u1 u2 u3 : Value} {m1 m2 m3 : Nat} {y1 y2 y3 : List (List D)} (h : look sl t = .agg [.lit p, .lit u1, .lit u2, .lit u3, .lit v]) (q1 : ∃ b, VR w0 (.sh m1 y1) u1 b ∧ ∀ k ∈ b, A k) (q2 : ∃ b, VR w0 (.sh m2 y2) u2 b ∧ ∀ k ∈ b, A k) (q3 : ∃ b, VR w0 (.sh m3 y3) u3 b ∧ ∀ k ∈ b, A k)
    (hk : WO P w0 A ops l ⟨n, (t, .agg [.lit p, .sh m1 y1, .sh m2 y2, .sh m3 y3, .lit v]) :: sl, hp⟩ K) : WO P w0 A ops l ⟨n, sl, hp⟩ K := by
  obtain ⟨b1, q1, a1⟩ := q1
  obtain ⟨b2, q2, a2⟩ := q2
  obtain ⟨b3, q3, a3⟩ := q3
  refine ⟨fun ms a w hr Q hq => hk.run ms a w ?_ Q hq⟩
  refine ⟨hr.ext, hr.old, hr.size, hr.defers, hr.len, hr.nodup, hr.range, hr.ents, fun t' => ?_⟩
  have h1 := hr.slots t'
  simp only [St.get, look] at h1 ⊢
  split
  · rename_i e
    subst e
    rw [h] at h1
    obtain ⟨us, e1, h2⟩ := h1.agg_inv
    rw [e1]
    obtain ⟨w1, us1, rfl, p1, t1⟩ := vxs_cons h2
    obtain ⟨w2, us2, rfl, p2, t2⟩ := vxs_cons t1
    obtain ⟨w3, us3, rfl, p3, t3⟩ := vxs_cons t2
    obtain ⟨w4, us4, rfl, p4, t4⟩ := vxs_cons t3
    obtain ⟨w5, rfl, p5⟩ := vxs_one t4
    refine .agg (us := [w1, w2, w3, w4, w5]) (.cons p1 (.cons ?_ (.cons ?_ (.cons ?_ (.cons p5 .nil)))))
    · rw [p2.lit_inv.1]; exact pin_vr hr q1 a1
    · rw [p3.lit_inv.1]; exact pin_vr hr q2 a2
    · rw [p4.lit_inv.1]; exact pin_vr hr q3 a3
  · exact h1
end
end Go.Proofs.Ytcbfpeplcbgpjaa
namespace Go.Proofs.Ytcbfpeplcbgpjaa
open Go.ChangeShapes Go.WideShapes Go.ChangeAt Go.RowKit

theorem usB_net {a b : Stg} (h : uniB a.net b.net = false) : usB a b = false := by
  cases h1 : usB a b with
  | false => rfl
  | true =>
    simp only [usB, Bool.and_eq_true] at h1
    obtain ⟨⟨g1, g2⟩, g3⟩ := h1
    have n : ∀ {s : Stg}, goodStg s = true → goodNet s.net = true := by
      intro s hs
      simp only [goodStg, goodMark, Bool.and_eq_true] at hs
      exact hs.1.1
    have n1 := n g1; have n2 := n g2; have n3 := n g3
    simp only [uniS] at n3
    simp [uniB, n1, n2, n3] at h
set_option maxHeartbeats 4000000 in
theorem specUnionSTGs_f (a b : Stg) (hza : szStg a ≤ 1048576) (hzb : szStg b ≤ 1048576) : Fn Try.prog 30 [.agg (dStg a), .agg (dStg b)] (.tup [.agg [.lit (.int .i64 (usR a b).net.places), .own 0, .own 1, .own 2, .lit (.string (usR a b).start)], .lit (.bool (usB a b))]) [.arr 88 2 ((usR a b).net.trs.map dTr) true, .arr 132 2 ((usR a b).signals.map dSig) true, .arr 105 2 ((usR a b).labels.map dLab) true] := by
  refine Fn_stg2 a b tabOk Try.func30 rfl (by kernel_rfl) rfl rfl ?_
  rintro w0 A u1 u2 u3 v1 v2 v3 ⟨b1, q1, a1⟩ ⟨b2, q2, a2⟩ ⟨b3, q3, a3⟩ ⟨d1, e1, c1⟩ ⟨d2, e2, c2⟩ ⟨d3, e3, c3⟩
  have hza1 := len_dSig a.signals; have hzb1 := len_dSig b.signals
  have hza2 := len_dLab a.labels; have hzb2 := len_dLab b.labels
  have hsa : a.start.size ≤ 1048576 := by have := hza; simp only [szStg] at this; omega
  have hsb : b.start.size ≤ 1048576 := by have := hzb; simp only [szStg] at this; omega
  have hU := specUnionNets_f a.net b.net (by have := hza; simp only [szStg] at this; omega) (by have := hzb; simp only [szStg] at this; omega)
  cases hub : uniB a.net b.net <;> rw [hub] at hU
  · have hb := usB_net hub
    have hr := usR_no hb
    repeat' (first | refine goZ ?_ | refine R_callZ rfl (hU) rfl rfl rfl ?_ | refine R_callvZ rfl (hU) rfl rfl rfl rfl ?_ | refine WO_unlitA 13 rfl q1 a1 ?_ | refine WO_unlitA 15 rfl e1 c1 ?_ | refine WO_unpin5 22 rfl ⟨b1, q1, a1⟩ ⟨b2, q2, a2⟩ ⟨b3, q3, a3⟩ ?_ | refine WO_unpin5 27 rfl ⟨d1, e1, c1⟩ ⟨d2, e2, c2⟩ ⟨d3, e3, c3⟩ ?_ | refine D_callZ rfl (hU) rfl rfl rfl ?_ | ((first | refine R_cond rfl (fun hq => ?_) fun hq => ?_ | refine R_guardT rfl rfl rfl (fun hq => ?_) fun hq => ?_ | refine R_guardF rfl rfl rfl (fun hq => ?_) fun hq => ?_ | refine D_guardT rfl rfl rfl (fun hq => ?_) fun hq => ?_ | refine D_guardF rfl rfl rfl (fun hq => ?_) fun hq => ?_) <;> (try rw [hq]) <;> first | have hp := of_decide_eq_true hq | have hp := of_decide_eq_false hq | have hp := of_decide_eq_false (not_t hq) | have hp := of_decide_eq_true (not_f hq) | have hp := hq))
    all_goals exact .r (retC_nil3t rfl (by rw [hr]; rfl) (by rw [hr]; rfl) (by rw [hb]) (by rw [hr]; rfl) (by rw [hr]; rfl) (by rw [hr]; rfl))
  have hun : uniR a.net b.net = uniN a.net b.net := by
    simp only [uniB] at hub
    simp [uniR, hub]
  rw [hun] at hU
  have hVa := l2Good_f a hsa
  have hVb := l2Good_f b hsb
  cases hga : goodStg a <;> rw [hga] at hVa
  · have hb : usB a b = false := by simp [usB, hga]
    have hr := usR_no hb
    repeat' (first | refine goZ ?_ | refine R_callZ rfl (hU) rfl rfl rfl ?_ | refine R_callZ rfl (hVa) rfl rfl rfl ?_ | refine R_callvZ rfl (hU) rfl rfl rfl rfl ?_ | refine R_callvZ rfl (hVa) rfl rfl rfl rfl ?_ | refine WO_unlitA 13 rfl q1 a1 ?_ | refine WO_unlitA 15 rfl e1 c1 ?_ | refine WO_unpin5 22 rfl ⟨b1, q1, a1⟩ ⟨b2, q2, a2⟩ ⟨b3, q3, a3⟩ ?_ | refine WO_unpin5 27 rfl ⟨d1, e1, c1⟩ ⟨d2, e2, c2⟩ ⟨d3, e3, c3⟩ ?_ | refine D_callZ rfl (hU) rfl rfl rfl ?_ | refine D_callZ rfl (hVa) rfl rfl rfl ?_ | ((first | refine R_cond rfl (fun hq => ?_) fun hq => ?_ | refine R_guardT rfl rfl rfl (fun hq => ?_) fun hq => ?_ | refine R_guardF rfl rfl rfl (fun hq => ?_) fun hq => ?_ | refine D_guardT rfl rfl rfl (fun hq => ?_) fun hq => ?_ | refine D_guardF rfl rfl rfl (fun hq => ?_) fun hq => ?_) <;> (try rw [hq]) <;> first | have hp := of_decide_eq_true hq | have hp := of_decide_eq_false hq | have hp := of_decide_eq_false (not_t hq) | have hp := of_decide_eq_true (not_f hq) | have hp := hq))
    all_goals exact .r (retC_nil3t rfl (by rw [hr]; rfl) (by rw [hr]; rfl) (by rw [hb]) (by rw [hr]; rfl) (by rw [hr]; rfl) (by rw [hr]; rfl))
  cases hgb : goodStg b <;> rw [hgb] at hVb
  · have hb : usB a b = false := by simp [usB, hgb]
    have hr := usR_no hb
    repeat' (first | refine goZ ?_ | refine R_callZ rfl (hU) rfl rfl rfl ?_ | refine R_callZ rfl (hVa) rfl rfl rfl ?_ | refine R_callZ rfl (hVb) rfl rfl rfl ?_ | refine R_callvZ rfl (hU) rfl rfl rfl rfl ?_ | refine R_callvZ rfl (hVa) rfl rfl rfl rfl ?_ | refine R_callvZ rfl (hVb) rfl rfl rfl rfl ?_ | refine WO_unlitA 13 rfl q1 a1 ?_ | refine WO_unlitA 15 rfl e1 c1 ?_ | refine WO_unpin5 22 rfl ⟨b1, q1, a1⟩ ⟨b2, q2, a2⟩ ⟨b3, q3, a3⟩ ?_ | refine WO_unpin5 27 rfl ⟨d1, e1, c1⟩ ⟨d2, e2, c2⟩ ⟨d3, e3, c3⟩ ?_ | refine D_callZ rfl (hU) rfl rfl rfl ?_ | refine D_callZ rfl (hVa) rfl rfl rfl ?_ | refine D_callZ rfl (hVb) rfl rfl rfl ?_ | ((first | refine R_cond rfl (fun hq => ?_) fun hq => ?_ | refine R_guardT rfl rfl rfl (fun hq => ?_) fun hq => ?_ | refine R_guardF rfl rfl rfl (fun hq => ?_) fun hq => ?_ | refine D_guardT rfl rfl rfl (fun hq => ?_) fun hq => ?_ | refine D_guardF rfl rfl rfl (fun hq => ?_) fun hq => ?_) <;> (try rw [hq]) <;> first | have hp := of_decide_eq_true hq | have hp := of_decide_eq_false hq | have hp := of_decide_eq_false (not_t hq) | have hp := of_decide_eq_true (not_f hq) | have hp := hq))
    all_goals exact .r (retC_nil3t rfl (by rw [hr]; rfl) (by rw [hr]; rfl) (by rw [hb]) (by rw [hr]; rfl) (by rw [hr]; rfl) (by rw [hr]; rfl))
  have ha := StgOk.of hga hza; have hb := StgOk.of hgb hzb
  have ha1 := ha.sigs; have ha2 := ha.labs; have ha3 := ha.start; have hb1 := hb.sigs; have hb2 := hb.labs; have hb3 := hb.start
  repeat' (first | refine goZ ?_ | refine R_callZ rfl (hU) rfl rfl rfl ?_ | refine R_callZ rfl (hVa) rfl rfl rfl ?_ | refine R_callZ rfl (hVb) rfl rfl rfl ?_ | refine R_callvZ rfl (hU) rfl rfl rfl rfl ?_ | refine R_callvZ rfl (hVa) rfl rfl rfl rfl ?_ | refine R_callvZ rfl (hVb) rfl rfl rfl rfl ?_ | refine WO_unlitA 13 rfl q1 a1 ?_ | refine WO_unlitA 15 rfl e1 c1 ?_ | refine WO_unpin5 22 rfl ⟨b1, q1, a1⟩ ⟨b2, q2, a2⟩ ⟨b3, q3, a3⟩ ?_ | refine WO_unpin5 27 rfl ⟨d1, e1, c1⟩ ⟨d2, e2, c2⟩ ⟨d3, e3, c3⟩ ?_ | refine D_callZ rfl (hU) rfl rfl rfl ?_ | refine D_callZ rfl (hVa) rfl rfl rfl ?_ | refine D_callZ rfl (hVb) rfl rfl rfl ?_ | ((first | refine R_cond rfl (fun hq => ?_) fun hq => ?_ | refine R_guardT rfl rfl rfl (fun hq => ?_) fun hq => ?_ | refine R_guardF rfl rfl rfl (fun hq => ?_) fun hq => ?_ | refine D_guardT rfl rfl rfl (fun hq => ?_) fun hq => ?_ | refine D_guardF rfl rfl rfl (fun hq => ?_) fun hq => ?_) <;> (try rw [hq]) <;> first | have hp := of_decide_eq_true hq | have hp := of_decide_eq_false hq | have hp := of_decide_eq_false (not_t hq) | have hp := of_decide_eq_true (not_f hq) | have hp := hq))
  refine W_weak (s' := ⟨Try.f30.ntmps, [(2, .ptr 0 0), (3, .ptr 1 0), (4, .ptr 2 0), (6, .ptr 4 0)], [.cells 69 [.lit (.int .i64 a.net.places), .lit u1, .lit u2, .lit u3, .lit (.string a.start)], .cells 69 [.lit (.int .i64 b.net.places), .lit v1, .lit v2, .lit v3, .lit (.string b.start)], .cells 69 [.lit (.int .i64 0), .nil, .nil, .nil, .lit (.string ⟨#[]⟩)], .arr 88 2 ((uniN a.net b.net).trs.map dTr) true, .cells 30 [.lit (.int .i64 (uniN a.net b.net).places), .own 3]]⟩) (weakZ []) ?_
  refine W_pinO 3 4 1 rfl rfl rfl fun u hu => ?_
  refine W_weak (s' := ⟨Try.f30.ntmps, [(2, .ptr 0 0), (3, .ptr 1 0), (4, .ptr 2 0), (6, .ptr 4 0)], [.cells 69 [.lit (.int .i64 a.net.places), .lit u1, .lit u2, .lit u3, .lit (.string a.start)], .cells 69 [.lit (.int .i64 b.net.places), .lit v1, .lit v2, .lit v3, .lit (.string b.start)], .cells 69 [.lit (.int .i64 0), .nil, .nil, .nil, .lit (.string ⟨#[]⟩)], .cust (ArrU w0.heap.size u 88 2 ((uniN a.net b.net).trs.map dTr)), .cells 30 [.lit (.int .i64 (uniN a.net b.net).places), .lit u]]⟩) (fun ms a w h => ⟨ms, h⟩) ?_
  have hf1 : Flat (a.signals.map dSig) := flat_map (by simp [dSig, isLit])
  have hf2 : Flat (b.signals.map dSig) := flat_map (by simp [dSig, isLit])
  have hf3 : Flat (a.labels.map dLab) := flat_map (by simp [dLab, isLit])
  refine W_midS ⟨Try.f30.ntmps, [(2, .ptr 0 0), (3, .ptr 1 0), (4, .ptr 2 0), (8, .ptr 7 0)], [.cells 69 [.lit (.int .i64 a.net.places), .lit u1, .lit u2, .lit u3, .lit (.string a.start)], .cells 69 [.lit (.int .i64 b.net.places), .lit v1, .lit v2, .lit v3, .lit (.string b.start)], .cells 69 [.lit (.int .i64 0), .nil, .nil, .nil, .lit (.string ⟨#[]⟩)], .cust (ArrU w0.heap.size u 88 2 ((uniN a.net b.net).trs.map dTr)), .cells 30 [.lit (.int .i64 (uniN a.net b.net).places), .lit u], .arr 132 2 (a.signals.map dSig ++ b.signals.map dSig) true, .arr 105 2 (a.labels.map dLab) true, .cells 69 [.lit (.int .i64 (uniN a.net b.net).places), .lit u, .own 5, .own 6, .lit (.string (a.start ++ b.start))]]⟩ ?_ ?_
  · repeat' (first | refine H_pop tabOk 0 (by exact rfl) (by exact rfl) (by exact rfl) (by exact rfl) (by exact ⟨rfl, rfl, rfl, rfl, rfl, rfl, rfl, trivial⟩) (by exact rfl) (by exact rfl) (by exact rfl) (by exact rfl) (by exact trivial) ?_ | refine H_load tabOk 0 (by exact rfl) (by exact rfl) (by exact rfl) (by exact rfl) (by exact ⟨rfl, rfl, rfl, rfl, rfl, rfl, rfl, trivial⟩) (by exact rfl) (by exact rfl) (by exact rfl) (by exact rfl) ?_ | refine H_load2 tabOk 0 (by exact rfl) (by exact rfl) (by exact rfl) (by exact rfl) (by exact ⟨rfl, rfl, rfl, rfl, rfl, rfl, rfl, trivial⟩) (by exact rfl) (by exact rfl) (by exact rfl) (by exact rfl) (by exact rfl) ?_ | refine H_pop tabOk 1 (by exact rfl) (by exact rfl) (by exact rfl) (by exact rfl) (by exact ⟨rfl, rfl, rfl, rfl, rfl, rfl, rfl, trivial⟩) (by exact rfl) (by exact rfl) (by exact rfl) (by exact rfl) (by exact trivial) ?_ | refine H_load tabOk 1 (by exact rfl) (by exact rfl) (by exact rfl) (by exact rfl) (by exact ⟨rfl, rfl, rfl, rfl, rfl, rfl, rfl, trivial⟩) (by exact rfl) (by exact rfl) (by exact rfl) (by exact rfl) ?_ | refine H_load2 tabOk 1 (by exact rfl) (by exact rfl) (by exact rfl) (by exact rfl) (by exact ⟨rfl, rfl, rfl, rfl, rfl, rfl, rfl, trivial⟩) (by exact rfl) (by exact rfl) (by exact rfl) (by exact rfl) (by exact rfl) ?_ | refine H_pop tabOk 2 (by exact rfl) (by exact rfl) (by exact rfl) (by exact rfl) (by exact ⟨rfl, rfl, rfl, rfl, rfl, rfl, rfl, trivial⟩) (by exact rfl) (by exact rfl) (by exact rfl) (by exact rfl) (by exact trivial) ?_ | refine H_load tabOk 2 (by exact rfl) (by exact rfl) (by exact rfl) (by exact rfl) (by exact ⟨rfl, rfl, rfl, rfl, rfl, rfl, rfl, trivial⟩) (by exact rfl) (by exact rfl) (by exact rfl) (by exact rfl) ?_ | refine H_load2 tabOk 2 (by exact rfl) (by exact rfl) (by exact rfl) (by exact rfl) (by exact ⟨rfl, rfl, rfl, rfl, rfl, rfl, rfl, trivial⟩) (by exact rfl) (by exact rfl) (by exact rfl) (by exact rfl) (by exact rfl) ?_ | refine H_pop tabOk 3 (by exact rfl) (by exact rfl) (by exact rfl) (by exact rfl) (by exact ⟨rfl, rfl, rfl, rfl, rfl, rfl, rfl, trivial⟩) (by exact rfl) (by exact rfl) (by exact rfl) (by exact rfl) (by exact trivial) ?_ | refine H_load tabOk 3 (by exact rfl) (by exact rfl) (by exact rfl) (by exact rfl) (by exact ⟨rfl, rfl, rfl, rfl, rfl, rfl, rfl, trivial⟩) (by exact rfl) (by exact rfl) (by exact rfl) (by exact rfl) ?_ | refine H_load2 tabOk 3 (by exact rfl) (by exact rfl) (by exact rfl) (by exact rfl) (by exact ⟨rfl, rfl, rfl, rfl, rfl, rfl, rfl, trivial⟩) (by exact rfl) (by exact rfl) (by exact rfl) (by exact rfl) (by exact rfl) ?_ | refine H_pop tabOk 2 (by exact rfl) (by exact rfl) (by exact rfl) (by exact rfl) (by exact ⟨rfl, rfl, rfl, rfl, rfl, rfl, rfl, trivial⟩) (by exact rfl) (by exact rfl) (by exact rfl) (by exact rfl) (by show a.start.size + b.start.size ≤ 9223372036854775807; omega) ?_ | refine WO_unlit 35 rfl q2 a2 ?_ | refine WO_unlit 38 rfl e2 c2 ?_ | refine WO_unlit 42 rfl q3 a3 ?_ | refine go1 ?_ | refine goH ?_ | refine H_two (by exact rfl) (by exact rfl) (by exact rfl) (by exact rfl) (by exact rfl) ?_ ?_ | refine H_three (by exact rfl) (by exact rfl) (by exact rfl) (by exact rfl) (by exact rfl) (by exact rfl) (by exact rfl) ?_ ?_ ?_  | refine R_append tabOk rfl rfl rfl rfl rfl rfl rfl rfl rfl rfl rfl (hf1) (by simp only [List.length_nil]; omega) ?_ | refine R_append tabOk rfl rfl rfl rfl rfl rfl rfl rfl rfl rfl rfl (hf2) (by simp only [List.nil_append, List.length_map]; omega) ?_ | refine R_append tabOk rfl rfl rfl rfl rfl rfl rfl rfl rfl rfl rfl (hf3) (by simp only [List.length_nil]; omega) ?_ | ((first | refine R_cond rfl (fun hq => ?_) fun hq => ?_ | refine R_guardT rfl rfl rfl (fun hq => ?_) fun hq => ?_ | refine R_guardF rfl rfl rfl (fun hq => ?_) fun hq => ?_ | refine D_guardT rfl rfl rfl (fun hq => ?_) fun hq => ?_ | refine D_guardF rfl rfl rfl (fun hq => ?_) fun hq => ?_) <;> (try rw [hq]) <;> first | have hp := of_decide_eq_true hq | have hp := of_decide_eq_false hq | have hp := of_decide_eq_false (not_t hq) | have hp := of_decide_eq_true (not_f hq) | have hp := hq) | refine W_held mixed [(2, 2, u2), (2, 3, u3), (2, 4, .string a.start), (3, 2, v2), (3, 4, .string b.start), (6, 0, .int .i64 (uniN a.net b.net).places), (6, 1, u)] ?_ | refine And.intro (by exact ⟨rfl, rfl, rfl, rfl, rfl, rfl, rfl, trivial⟩) (idH ?_))
    all_goals first
        | (refine midQ.n (Weak_ren2 [some 0, some 1, some 2, some 3, some 4, some 5, some 6, some 7] rfl rfl ?_ ?_) <;> ((repeat' (first | exact trivial | rfl | refine And.intro ?_ ?_)) <;> done))
        | (refine midQ.n (Weak_ren2 [some 0, some 1, some 2, some 3, some 4, some 5, some 7, some 6] rfl rfl ?_ ?_) <;> ((repeat' (first | exact trivial | rfl | refine And.intro ?_ ?_)) <;> done))
        | (refine midQ.n (Weak_ren2 [some 0, some 1, some 2, some 3, some 4, some 6, some 5, some 7] rfl rfl ?_ ?_) <;> ((repeat' (first | exact trivial | rfl | refine And.intro ?_ ?_)) <;> done))
        | (refine midQ.n (Weak_ren2 [some 0, some 1, some 2, some 3, some 4, some 6, some 7, some 5] rfl rfl ?_ ?_) <;> ((repeat' (first | exact trivial | rfl | refine And.intro ?_ ?_)) <;> done))
        | (refine midQ.n (Weak_ren2 [some 0, some 1, some 2, some 3, some 4, some 7, some 5, some 6] rfl rfl ?_ ?_) <;> ((repeat' (first | exact trivial | rfl | refine And.intro ?_ ?_)) <;> done))
        | (refine midQ.n (Weak_ren2 [some 0, some 1, some 2, some 3, some 4, some 7, some 6, some 5] rfl rfl ?_ ?_) <;> ((repeat' (first | exact trivial | rfl | refine And.intro ?_ ?_)) <;> done))
        | trace_state
  refine W_unpinO 3 7 1 rfl rfl rfl ?_
  refine W_weak (s' := ⟨Try.f30.ntmps, [(2, .ptr 0 0), (3, .ptr 1 0), (4, .ptr 2 0), (8, .ptr 7 0)], [.cells 69 [.lit (.int .i64 a.net.places), .lit u1, .lit u2, .lit u3, .lit (.string a.start)], .cells 69 [.lit (.int .i64 b.net.places), .lit v1, .lit v2, .lit v3, .lit (.string b.start)], .cells 69 [.lit (.int .i64 0), .nil, .nil, .nil, .lit (.string ⟨#[]⟩)], .arr 88 2 ((uniN a.net b.net).trs.map dTr) true, .cells 30 [.lit (.int .i64 (uniN a.net b.net).places), .lit u], .arr 132 2 (a.signals.map dSig ++ b.signals.map dSig) true, .arr 105 2 (a.labels.map dLab) true, .cells 69 [.lit (.int .i64 (uniN a.net b.net).places), .own 3, .own 5, .own 6, .lit (.string (a.start ++ b.start))]]⟩) (fun ms a w h => ⟨ms, h⟩) ?_
  rw [← List.map_append]
  repeat' (first | refine WO_unlit 51 rfl e3 c3 ?_ | refine go1 ?_ | ((first | refine R_cond rfl (fun hq => ?_) fun hq => ?_ | refine R_guardT rfl rfl rfl (fun hq => ?_) fun hq => ?_ | refine R_guardF rfl rfl rfl (fun hq => ?_) fun hq => ?_ | refine D_guardT rfl rfl rfl (fun hq => ?_) fun hq => ?_ | refine D_guardF rfl rfl rfl (fun hq => ?_) fun hq => ?_) <;> (try rw [hq]) <;> first | have hp := of_decide_eq_true hq | have hp := of_decide_eq_false hq | have hp := of_decide_eq_false (not_t hq) | have hp := of_decide_eq_true (not_f hq) | have hp := hq))
  refine W_loop (fun i : Nat => ⟨_, [(2, .ptr 0 0), (3, .ptr 1 0), (4, .ptr 2 0), (8, .ptr 7 0), (51, .sh 2 (b.labels.map dLab)), (52, .lit (.int .i64 b.labels.length)), (53, .lit (.int .i64 i))], [.cells 69 [.lit (.int .i64 a.net.places), .lit u1, .lit u2, .lit u3, .lit (.string a.start)], .cells 69 [.lit (.int .i64 b.net.places), .lit v1, .lit v2, .lit v3, .lit (.string b.start)], .cells 69 [.lit (.int .i64 0), .nil, .nil, .nil, .lit (.string ⟨#[]⟩)], .arr 88 2 ((uniN a.net b.net).trs.map dTr) true, .cells 30 [.lit (.int .i64 (uniN a.net b.net).places), .lit u], .arr 132 2 ((a.signals ++ b.signals).map dSig) true, .arr 105 2 ((uniL a b i).map dLab) true, .cells 69 [.lit (.int .i64 (uniN a.net b.net).places), .own 3, .own 5, .own 6, .lit (.string (a.start ++ b.start))]]⟩) (fun i => i ≤ b.labels.length) (fun i => b.labels.length - i) 0 (Nat.zero_le _) (by rw [uniL_zero]; first | exact weakZ [] | (rw [hzb2]; exact weakZ [])) ?_
  intro i hi
  have hbl : i < b.labels.length → _ := fun h => hb.lab _ (nth_mem h)
  have hul : (uniL a b i).length ≤ 48 := by simp [uniL]; omega
  have hul2 := len_dLab (uniL a b i)
  repeat' (first | refine WO_unlit 63 rfl q2 a2 ?_ | refine go1 ?_ | ((first | refine R_cond rfl (fun hq => ?_) fun hq => ?_ | refine R_guardT rfl rfl rfl (fun hq => ?_) fun hq => ?_ | refine R_guardF rfl rfl rfl (fun hq => ?_) fun hq => ?_ | refine D_guardT rfl rfl rfl (fun hq => ?_) fun hq => ?_ | refine D_guardF rfl rfl rfl (fun hq => ?_) fun hq => ?_) <;> (try rw [hq]) <;> first | have hp := of_decide_eq_true hq | have hp := of_decide_eq_false hq | have hp := of_decide_eq_false (not_t hq) | have hp := of_decide_eq_true (not_f hq) | have hp := hq))
  · refine ⟨i + 1, by omega, by omega, ?_⟩
    rw [uniL_map (show i < b.labels.length by omega), shLab_up (by first | assumption | simp_all)]
    first | exact weakZ _ | (rw [hza1]; exact weakZ _)
  · refine ⟨i + 1, by omega, by omega, ?_⟩
    rw [uniL_map (show i < b.labels.length by omega), shLab_no (by first | assumption | simp_all)]
    exact weakZ _
  have ei : i = b.labels.length := by omega
  subst ei
  have hst : (uniS a b).start.size ≤ 1048576 := by simp only [uniS, ByteArray.size_append]; omega
  have hV := l2Good_f (uniS a b) hst
  cases hgo : goodStg (uniS a b) <;> rw [hgo] at hV
  · have hb : usB a b = false := by simp [usB, hgo]
    have hr := usR_no hb
    repeat' (first | refine goZ ?_ | refine R_callZ rfl (hV) rfl rfl rfl ?_ | refine R_callvZ rfl (hV) rfl rfl rfl rfl ?_ | refine D_callZ rfl (hV) rfl rfl rfl ?_ | ((first | refine R_cond rfl (fun hq => ?_) fun hq => ?_ | refine R_guardT rfl rfl rfl (fun hq => ?_) fun hq => ?_ | refine R_guardF rfl rfl rfl (fun hq => ?_) fun hq => ?_ | refine D_guardT rfl rfl rfl (fun hq => ?_) fun hq => ?_ | refine D_guardF rfl rfl rfl (fun hq => ?_) fun hq => ?_) <;> (try rw [hq]) <;> first | have hp := of_decide_eq_true hq | have hp := of_decide_eq_false hq | have hp := of_decide_eq_false (not_t hq) | have hp := of_decide_eq_true (not_f hq) | have hp := hq))
    all_goals first
      | exact .r (retC_nil3t rfl (by rw [hr]; rfl) (by rw [hr]; rfl) (by rw [hb]) (by rw [hr]; rfl) (by rw [hr]; rfl) (by rw [hr]; rfl))
  · have hb : usB a b = true := by simp [usB, hga, hgb, hgo]
    have hr := usR_yes hb
    repeat' (first | refine goZ ?_ | refine R_callZ rfl (hV) rfl rfl rfl ?_ | refine R_callvZ rfl (hV) rfl rfl rfl rfl ?_ | refine D_callZ rfl (hV) rfl rfl rfl ?_ | ((first | refine R_cond rfl (fun hq => ?_) fun hq => ?_ | refine R_guardT rfl rfl rfl (fun hq => ?_) fun hq => ?_ | refine R_guardF rfl rfl rfl (fun hq => ?_) fun hq => ?_ | refine D_guardT rfl rfl rfl (fun hq => ?_) fun hq => ?_ | refine D_guardF rfl rfl rfl (fun hq => ?_) fun hq => ?_) <;> (try rw [hq]) <;> first | have hp := of_decide_eq_true hq | have hp := of_decide_eq_false hq | have hp := of_decide_eq_false (not_t hq) | have hp := of_decide_eq_true (not_f hq) | have hp := hq))
    all_goals first
      | exact .r (retC_own3t rfl rfl rfl rfl (by simp) (by rw [hr]; try rfl) (by rw [hr]; try rfl) (by rw [hb]) (by rw [hr]; try rfl) (by rw [hr]; try rfl) (by rw [hr]; try rfl))
end Go.Proofs.Ytcbfpeplcbgpjaa
