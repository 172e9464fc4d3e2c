/- Symbolic states: states that tell less; rows of data; the table of the types. No condition. -/
import Derived.Test.YtidfmgahnmpcdaaAbsI
import Derived.KernelRfl
set_option linter.unusedSimpArgs false
set_option linter.unusedVariables false
namespace Go.Proofs.Ytidfmgahnmpcdaa
open Go.ChangeShapes Go.WideShapes Go.ChangeAt Go.RowKit

mutual
def D.lt (m : Nat) : D → Bool
  | .own i => Nat.blt i m
  | .vec i _ => Nat.blt i m
  | .ptr i _ => Nat.blt i m
  | .eptr i _ _ _ => Nat.blt i m
  | .agg ds => D.ltL m ds
  | .tup ds => D.ltL m ds
  | .fn _ ds => D.ltL m ds
  | _ => true
def D.ltL (m : Nat) : List D → Bool
  | [] => true
  | d :: ds => match d.lt m with | true => D.ltL m ds | false => false
end
mutual
theorem D.lt_uses : ∀ {d : D} {m i : Nat}, d.lt m = true → d.uses i = true → i < m
  | .no, _, _, _, h => by simp [D.uses] at h
  | .lit _, _, _, _, h => by simp [D.uses] at h
  | .nil, _, _, _, h => by simp [D.uses] at h
  | .sh _ _, _, _, _, h => by simp [D.uses] at h
  | .sptr _, _, _, _, h => by simp [D.uses] at h
  | .old _ _ _, _, _, _, h => by simp [D.uses] at h
  | .val _, _, _, _, h => by simp [D.uses] at h
  | .own j, m, i, h, h' => by simp [D.uses] at h'; subst h'; simpa [D.lt, Nat.blt_eq] using h
  | .vec j _, m, i, h, h' => by simp [D.uses] at h'; subst h'; simpa [D.lt, Nat.blt_eq] using h
  | .ptr j _, m, i, h, h' => by simp [D.uses] at h'; subst h'; simpa [D.lt, Nat.blt_eq] using h
  | .eptr j _ _ _, m, i, h, h' => by simp [D.uses] at h'; subst h'; simpa [D.lt, Nat.blt_eq] using h
  | .agg ds, m, i, h, h' => by rw [D.lt] at h; rw [D.uses] at h'; exact D.ltL_uses h h'
  | .tup ds, m, i, h, h' => by rw [D.lt] at h; rw [D.uses] at h'; exact D.ltL_uses h h'
  | .fn _ ds, m, i, h, h' => by rw [D.lt] at h; rw [D.uses] at h'; exact D.ltL_uses h h'
theorem D.ltL_uses : ∀ {ds : List D} {m i : Nat}, D.ltL m ds = true → D.usesL i ds = true → i < m
  | [], _, _, _, h => by simp [D.usesL] at h
  | d :: ds, m, i, h, h' => by
    rw [D.ltL] at h
    cases hd : d.lt m
    · rw [hd] at h; exact Bool.noConfusion h
    · rw [hd] at h
      rw [D.usesL, Bool.or_eq_true] at h'
      rcases h' with h' | h'
      · exact D.lt_uses hd h'
      · exact D.ltL_uses h h'
end
def SlotsIn (s : St) : List (Nat × D) → Prop
  | [] => True
  | (t, d) :: l => s.get t = d ∧ SlotsIn s l
def slotsLt (m : Nat) : List (Nat × D) → Bool
  | [] => true
  | (_, d) :: l => match d.lt m with | true => slotsLt m l | false => false
def heapLt (m : Nat) : List Blk → Bool
  | [] => true
  | .cells _ ds :: l => match D.ltL m ds with | true => heapLt m l | false => false
  | _ :: l => heapLt m l

section
variable {P : Program} {w0 w : World} {A : Nat → Prop} {s s' : St} {ms : List Ent} {a : Act} {Q : Exit → St → Prop}

theorem slotsIn_look {t : Nat} : ∀ {l : List (Nat × D)} {m : Nat}, SlotsIn s l → slotsLt m l = true → look l t = .no ∨ (look l t = s.get t ∧ (s.get t).lt m = true)
  | [], _, _, _ => Or.inl rfl
  | (t', d) :: l, m, h, hl => by
    obtain ⟨h1, h2⟩ := h
    rw [slotsLt] at hl
    cases hd : d.lt m
    · rw [hd] at hl; exact Bool.noConfusion hl
    · rw [hd] at hl
      simp only [look]
      split
      · rename_i e; subst e; exact Or.inr ⟨h1.symm, by rw [h1]; exact hd⟩
      · exact slotsIn_look h2 hl
theorem heapLt_get {t : TypeId} {ds : List D} : ∀ {l : List Blk} {m i : Nat}, heapLt m l = true → l[i]? = some (.cells t ds) → D.ltL m ds = true
  | [], _, _, _, h => by simp at h
  | b :: l, m, 0, h, hi => by
    simp at hi; subst hi
    rw [heapLt] at h
    cases hd : D.ltL m ds
    · rw [hd] at h; exact Bool.noConfusion h
    · rfl
  | b :: l, m, i + 1, h, hi => by
    simp at hi
    refine heapLt_get (m := m) ?_ hi
    cases b with
    | cells t' ds' =>
      rw [heapLt] at h
      cases hd : D.ltL m ds'
      · rw [hd] at h; exact Bool.noConfusion h
      · rw [hd] at h; exact h
    | gone => rw [heapLt] at h; exact h; intro _ _ h; cases h
    | arr _ _ _ _ => rw [heapLt] at h; exact h; intro _ _ h; cases h
    | fr _ _ => rw [heapLt] at h; exact h; intro _ _ h; cases h
    | cust _ => rw [heapLt] at h; exact h; intro _ _ h; cases h

theorem weak_of (ex : List Blk) (hn : s'.n = s.n) (hh : s.heap = s'.heap ++ ex) (hs : SlotsIn s s'.slots) (hl : slotsLt s'.heap.length s'.slots = true) (hc : heapLt s'.heap.length s'.heap = true) : Weak w0 A s s' := by
  intro ms a w hr
  have e : ms = ms.take s'.heap.length ++ ms.drop s'.heap.length := (List.take_append_drop _ _).symm
  have hlen : (ms.take s'.heap.length).length = s'.heap.length := by rw [List.length_take, hr.len, hh]; simp
  have ho : owned ms = owned (ms.take s'.heap.length) ++ owned (ms.drop s'.heap.length) := by rw [← owned_append, ← e]
  have ht : tops ms = tops (ms.take s'.heap.length) ++ tops (ms.drop s'.heap.length) := by rw [← tops_append, ← e]
  have hk : ∀ k, OkB w0.heap.size A ms w k → w.heap[k]? = w.heap[k]? ∧ OkB w0.heap.size A (ms.take s'.heap.length) w k := fun k ⟨k1, k2, k3⟩ => ⟨rfl, k1, k2, fun h => k3 (by rw [ht]; exact List.mem_append_left _ h)⟩
  have hm : ∀ (i : Nat) (e : Ent), i < s'.heap.length → ms[i]? = some e → (ms.take s'.heap.length)[i]? = some e := fun i e hi h => by rw [List.getElem?_take, if_pos hi]; exact h
  refine ⟨ms.take s'.heap.length, hr.ext, hr.old, by rw [hn]; exact hr.size, hr.defers, hlen, ?_, ?_, ?_, ?_⟩
  · have := hr.nodup; rw [ho] at this; exact (List.nodup_append.1 this).1
  · intro k hk'; exact hr.range k (by rw [ho]; exact List.mem_append_left _ hk')
  · intro i b e hi he
    have hi' : i < s'.heap.length := (List.getElem?_eq_some_iff.1 hi).1
    have hb : s.heap[i]? = some b := by rw [hh, List.getElem?_append_left hi']; exact hi
    have he' : ms[i]? = some e := by rw [List.getElem?_take, if_pos hi'] at he; exact he
    refine (hr.ents i b e hb he').mono hk (fun _ _ => rfl) (fun _ _ => rfl) fun j e2 hu h2 => hm j e2 ?_ h2
    cases b with
    | cells t ds => exact D.ltL_uses (heapLt_get hc hi) hu
    | gone => simp [Blk.uses] at hu
    | arr _ _ _ _ => simp [Blk.uses] at hu
    | fr _ _ => simp [Blk.uses] at hu
    | cust _ => simp [Blk.uses] at hu
  · intro t
    rcases slotsIn_look (t := t) hs hl with h | ⟨h, h2⟩
    · rw [St.get, h]; exact .no
    · rw [St.get, h]
      exact VX.mono hk (hr.slots t) fun i e hu h3 => hm i e (D.lt_uses h2 hu) h3

/-- A nil slice becomes an array of the call's own, without elements. -/
theorem W_open {c : Code} (t : Nat) (T : TypeId) (n : Nat) (h : s.get t = .nil) (hw : W P w0 A c ⟨s.n, (t, .own s.heap.length) :: s.slots, s.heap ++ [.arr T n [] true]⟩ Q) : W P w0 A c s Q := by
  refine W_weak (s' := ⟨s.n, (t, .own s.heap.length) :: s.slots, s.heap ++ [.arr T n [] true]⟩) ?_ hw
  intro ms a w hr
  have := hr.grow (Ext.refl w) [nilEnt] [.arr T n [] true] rfl (by simp [owned, nilEnt]) (by simp [owned, nilEnt]) (by
    intro i b e hb he
    cases i with
    | succ i => simp at hb
    | zero =>
      simp at hb he
      subst hb; subst he
      exact ⟨[], [], World.ownsRow_nil _ _ _ _, by simp, .nil, rfl, rfl, by simp⟩)
  refine ⟨_, this.ext, this.old, this.size, this.defers, this.len, this.nodup, this.range, this.ents, fun x => ?_⟩
  simp only [St.get, look]
  split
  · rename_i e
    subst e
    have hv := hr.slots x
    rw [h] at hv
    rw [hv.nil_inv]
    exact VX.own (e := nilEnt) (by rw [List.getElem?_append_right (by rw [hr.len]; exact Nat.le_refl _), hr.len]; simp) ⟨none, 0, 0, rfl⟩
  · exact this.slots x
end

/-! ### Rows of data -/
theorem rowAt_nat {α : Type} [Inhabited α] {l : List α} {f : α → List D} {k : Nat} (h : k < l.length) : RowAt (l.map f) (k : Int) (f (nth l k)) := by
  refine ⟨by omega, ?_⟩
  rw [List.getElem?_map, Int.toNat_natCast, List.getElem?_eq_getElem h, nth_get h]; rfl
theorem rowAt_int {α : Type} [Inhabited α] {l : List α} {f : α → List D} {j : Int} (h0 : 0 ≤ j) (h : j < l.length) : RowAt (l.map f) j (f (nth l j.toNat)) := by
  have hk : j.toNat < l.length := by omega
  refine ⟨h0, ?_⟩
  rw [List.getElem?_map, List.getElem?_eq_getElem hk, nth_get hk]; rfl
def ints (l : List Int) : List (List D) := l.map fun x => [.lit (.int .i64 x)]
def strs (l : List ByteArray) : List (List D) := l.map fun x => [.lit (.string x)]
def bools (l : List Bool) : List (List D) := l.map fun x => [.lit (.bool x)]
end Go.Proofs.Ytidfmgahnmpcdaa
