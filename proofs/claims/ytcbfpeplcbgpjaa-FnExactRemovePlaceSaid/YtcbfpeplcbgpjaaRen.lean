/- Entries renumbered, in variables too. No condition. -/
import Derived.Test.YtcbfpeplcbgpjaaAbsY
set_option linter.unusedSimpArgs false
set_option linter.unusedVariables false
namespace Go.Proofs.Ytcbfpeplcbgpjaa
open Go.ChangeShapes Go.WideShapes Go.ChangeAt Go.RowKit

def renL (js : List (Option Nat)) : List D → List D → Prop
  | [], l => l = []
  | d :: ds, l => match l with | d' :: ds' => renD js d d' ∧ renL js ds ds' | [] => False
def renB2 (js : List (Option Nat)) : Blk → Blk → Prop
  | .cells t ds, b' => match b' with | .cells t' ds' => t = t' ∧ renL js ds ds' | _ => False
  | b, b' => b = b' ∧ renB b = true
def renH2 (hp : List Blk) (jz : List (Option Nat)) : List (Option Nat) → List Blk → Prop
  | [], l => l = []
  | j :: js, l => match j, l with
    | some i, b' :: l' => (match hp[i]? with | some b => renB2 jz b b' | none => False) ∧ renH2 hp jz js l'
    | _, _ => False
section
variable {w0 w : World} {A : Nat → Prop} {s : St} {ms : List Ent} {a : Act}
theorem renH2_get {hp : List Blk} {jz : List (Option Nat)} : ∀ {js : List (Option Nat)} {l : List Blk}, renH2 hp jz js l → js.length = l.length ∧ ∀ {k : Nat} {b' : Blk}, l[k]? = some b' → ∃ i b, js[k]? = some (some i) ∧ hp[i]? = some b ∧ renB2 jz b b'
  | [], l, h => by simp only [renH2] at h; subst h; exact ⟨rfl, fun h => by simp at h⟩
  | none :: js, l, h => by simp [renH2] at h
  | some i :: js, [], h => by simp [renH2] at h
  | some i :: js, b :: l, h => by
    simp only [renH2] at h
    obtain ⟨h1, h3⟩ := h
    obtain ⟨g1, g2⟩ := renH2_get h3
    refine ⟨by simp [g1], fun {k b'} hk => ?_⟩
    cases k with
    | zero =>
      simp at hk; subst hk
      cases hb : hp[i]? with
      | none => rw [hb] at h1; exact h1.elim
      | some b0 => rw [hb] at h1; exact ⟨i, b0, by simp, hb, h1⟩
    | succ k => obtain ⟨i', b0, p1, p2⟩ := g2 (by simpa using hk); exact ⟨i', b0, by simpa using p1, p2⟩
theorem renD_ok {js : List (Option Nat)} {d d' : D} {u : Value} (hv : VX ms w (OkB w0.heap.size A ms w) d u) (h : renD js d d') : VX (js.map (pickE ms)) w (OkB w0.heap.size A (js.map (pickE ms)) w) d' u := by
  have hk : ∀ k, OkB w0.heap.size A ms w k → w.heap[k]? = w.heap[k]? ∧ OkB w0.heap.size A (js.map (pickE ms)) w k := fun k h => ⟨rfl, pick_ok h⟩
  cases d with
  | own i =>
    cases d' with
    | own k =>
      simp only [renD] at h
      obtain ⟨e, h1, e1, h2⟩ := hv.own_inv
      rw [e1]
      refine .own ?_ h2
      rw [List.getElem?_map, h]
      simp [pickE, h1]
    | _ => simp [renD] at h
  | ptr i o =>
    cases d' with
    | ptr k o' =>
      simp only [renD] at h
      obtain ⟨h0, rfl⟩ := h
      obtain ⟨e, b, h1, h2, e1⟩ := hv.ptr_inv
      rw [e1]
      refine .ptr (e := e) ?_ h2
      rw [List.getElem?_map, h0]
      simp [pickE, h1]
    | _ => simp [renD] at h
  | _ =>
    simp only [renD] at h
    obtain ⟨rfl, hp⟩ := h
    exact VX.mono hk hv fun i e hu _ => by rw [D.plain_uses i hp] at hu; exact Bool.noConfusion hu
theorem renL_ok {js : List (Option Nat)} : ∀ {ds ds' : List D} {us : List Value}, VXs ms w (OkB w0.heap.size A ms w) ds us → renL js ds ds' → VXs (js.map (pickE ms)) w (OkB w0.heap.size A (js.map (pickE ms)) w) ds' us
  | [], ds', _, h, h' => by simp only [renL] at h'; subst h'; cases h; exact .nil
  | d :: ds, [], _, _, h' => by simp [renL] at h'
  | d :: ds, d' :: ds', _, .cons h1 h2, h' => by
    simp only [renL] at h'
    exact .cons (renD_ok h1 h'.1) (renL_ok h2 h'.2)
theorem Weak_ren2 {s' : St} (js : List (Option Nat)) (hnd : nodupN (js.filterMap id) = true) (hn : s'.n = s.n) (hh : renH2 s.heap js js s'.heap) (hs : renS s js s'.slots) : Weak w0 A s s' := by
  intro ms a w hr
  obtain ⟨hl, hget⟩ := renH2_get hh
  have hnd := nodupN_iff hnd
  have hk : ∀ k, OkB w0.heap.size A ms w k → w.heap[k]? = w.heap[k]? ∧ OkB w0.heap.size A (js.map (pickE ms)) w k := fun k h => ⟨rfl, pick_ok h⟩
  refine ⟨js.map (pickE ms), hr.ext, hr.old, by rw [hn]; exact hr.size, hr.defers, by simp [hl], pick_nodup hr.nodup hnd, ?_, ?_, ?_⟩
  · intro k hk
    obtain ⟨i, e, _, h2, h3⟩ := mem_pick hk
    exact hr.range k (ent_owned h2 h3)
  · intro k b' e hb he
    obtain ⟨i, b, h1, h2, h3⟩ := hget hb
    rw [List.getElem?_map, h1] at he
    have hlt : i < ms.length := by rw [hr.len]; exact (List.getElem?_eq_some_iff.1 h2).1
    have hi : ms[i]? = some ms[i] := List.getElem?_eq_getElem hlt
    simp only [Option.map_some, pickE, hi, Option.getD_some, Option.some.injEq] at he
    subst he
    have hE := hr.ents i b _ h2 hi
    cases b with
    | cells t ds =>
      cases b' with
      | cells t' ds' =>
        simp only [renB2] at h3
        obtain ⟨rfl, h4⟩ := h3
        obtain ⟨g, us, g1, g2, g3⟩ := hE
        exact ⟨g, us, g1, g2, renL_ok g3 h4⟩
      | _ => simp [renB2] at h3
    | _ =>
      simp only [renB2] at h3
      obtain ⟨rfl, h4⟩ := h3
      exact hE.mono hk (fun _ _ => rfl) (fun _ _ => rfl) fun j e hu _ => by simp [Blk.uses] at hu
  · intro t
    rcases renS_look t hs with h | h
    · rw [St.get, h]; exact .no
    · exact renD_ok (hr.slots t) h
end
end Go.Proofs.Ytcbfpeplcbgpjaa
