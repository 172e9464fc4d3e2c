/- What a call turned in blocks of its own: Turn; cells that hold marks: MFlat. No condition. -/
import Derived.Test.YtcpjhpjlcgcigaaGreatDoorLibc
set_option linter.unusedSimpArgs false
set_option linter.unusedVariables false
namespace Go.Proofs.YtcpjhpjlcgcigaaGreatDoor
open Go.ChangeShapes Go.WideShapes Go.ChangeAt Go.RowKit

/-- A later world that has turned in the blocks bs alone, and they can be written as before. -/
structure Turn (bs : List Nat) (w w' : World) : Prop where
  os : w'.os = w.os
  tape : w'.tape = w.tape
  output : w'.output = w.output
  size : w.heap.size ≤ w'.heap.size
  block : ∀ k, k < w.heap.size → k ∉ bs → w'.heap[k]? = w.heap[k]?
  un : ∀ k, k ∈ bs → Un w k → Un w' k

theorem Turn.refl (bs : List Nat) (w : World) : Turn bs w w := ⟨rfl, rfl, rfl, Nat.le_refl _, fun _ _ _ => rfl, fun _ _ h => h⟩
theorem Turn.trans {bs : List Nat} {a b c : World} (h : Turn bs a b) (k : Turn bs b c) : Turn bs a c :=
  ⟨k.os.trans h.os, k.tape.trans h.tape, k.output.trans h.output, Nat.le_trans h.size k.size, fun i hi hn => (k.block i (Nat.lt_of_lt_of_le hi h.size) hn).trans (h.block i hi hn), fun i hm hu => k.un i hm (h.un i hm hu)⟩
theorem Turn.of_ext {bs : List Nat} {a b : World} (h : Ext a b) : Turn bs a b := ⟨h.os, h.tape, h.output, Below.size h, fun _ hi _ => h.heap hi, fun _ _ hu => hu.ext h⟩
theorem Turn.mono {bs bs' : List Nat} {a b : World} (h : Turn bs a b) (hs : ∀ k ∈ bs, k ∈ bs') : Turn bs' a b :=
  ⟨h.os, h.tape, h.output, h.size, fun i hi hn => h.block i hi (fun hm => hn (hs i hm)), fun i _ hu => by
    by_cases hm : i ∈ bs
    · exact h.un i hm hu
    · exact hu.keep (h.block i hu.lt hm)⟩
theorem Turn.un_all {bs : List Nat} {a b : World} (h : Turn bs a b) {k : Nat} (hu : Un a k) : Un b k := by
  by_cases hm : k ∈ bs
  · exact h.un k hm hu
  · exact hu.keep (h.block k hu.lt hm)
theorem un_setCell {w : World} {k : Nat} (h : Un w k) (p : Addr) (v : Value) : Un (w.setCell p v) k := by
  obtain ⟨cs, e, hh⟩ := h
  by_cases e' : k = p.block
  · refine ⟨if p.spot.isSome then cs else cs.setIfInBounds p.off v, e, ?_⟩
    subst e'
    simp [World.setCell, Array.getElem?_modify, hh]
  · exact ⟨cs, e, by rw [Below.heap_setCell _ _ _ _ e']; exact hh⟩
theorem Turn.setCell {bs : List Nat} {a b : World} (h : Turn bs a b) {p : Addr} (hp : p.block ∈ bs) (v : Value) : Turn bs a (b.setCell p v) :=
  h.trans ⟨rfl, rfl, rfl, by simp, fun i _ hn => Below.heap_setCell _ _ _ _ (fun e => hn (e ▸ hp)), fun _ _ hu => un_setCell hu p v⟩
theorem Turn.setCells {bs : List Nat} {g : Nat} (hg : g ∈ bs) : ∀ (cs : List Value) {a b : World} (j : Nat), Turn bs a b → Turn bs a (setCells b g j cs)
  | [], _, _, _, h => h
  | c :: cs, _, _, j, h => Turn.setCells hg cs (j + 1) (h.setCell (p := ⟨g, j, none⟩) hg c)
/-- Blocks that were not there at the beginning may turn. -/
theorem Ext.turn {bs : List Nat} {a b c : World} (h : Ext a b) (k : Turn bs b c) (hb : ∀ i ∈ bs, a.heap.size ≤ i) : Ext a c :=
  ⟨k.os.trans h.os, k.tape.trans h.tape, k.output.trans h.output, Nat.le_trans (Below.size h) k.size, fun i hi => (k.block i (Nat.lt_of_lt_of_le hi (Below.size h)) (fun hm => by have := hb i hm; omega)).trans (h.heap hi)⟩
theorem Ty.keep_turn {α : Type} {T : Ty α} {bs bs' : List Nat} {w w' : World} {x : α} {cs : List Value} (h : T.rep w x bs' cs) (k : Turn bs w w') (hd : ∀ i ∈ bs', i ∉ bs) : T.rep w' x bs' cs :=
  T.keep (fun i hi => k.block i (T.inb h i hi) (hd i hi)) h

/-- A block that can be written and has N cells at least. -/
def BlkW (w : World) (b N : Nat) : Prop := ∃ cur e, w.heap[b]? = some (.cells cur e (0, 0)) ∧ N ≤ cur.size
theorem BlkW.cell {w : World} {b N : Nat} (h : BlkW w b N) {j : Nat} (hj : j < N) : ∃ u, w.cell? ⟨b, j, none⟩ = some u := by
  obtain ⟨cur, e, hh, hn⟩ := h
  exact ⟨cur[j], by rw [cell_of_row w b j cur e (0, 0) hh]; simp⟩
theorem BlkW.frozen {w : World} {b N : Nat} (h : BlkW w b N) (j : Nat) : w.frozen? ⟨b, j, none⟩ = false := by
  obtain ⟨cur, e, hh, hn⟩ := h
  exact frozen_of_row w b j cur e hh
theorem BlkW.ext {w w' : World} {b N : Nat} (h : BlkW w b N) (x : Ext w w') : BlkW w' b N := by
  obtain ⟨cur, e, hh, hn⟩ := h
  exact ⟨cur, e, by rw [x.heap (Array.getElem?_eq_some_iff.1 hh).1]; exact hh, hn⟩
theorem BlkW.setCell {w : World} {b N : Nat} (h : BlkW w b N) (j : Nat) (v : Value) : BlkW (w.setCell ⟨b, j, none⟩ v) b N := by
  obtain ⟨cur, e, hh, hn⟩ := h
  exact ⟨cur.setIfInBounds j v, e, by simp [World.setCell, Array.getElem?_modify, hh], by simpa using hn⟩
theorem BlkW.setCells {b N : Nat} : ∀ (cs : List Value) {w : World} (j : Nat), BlkW w b N → BlkW (setCells w b j cs) b N
  | [], _, _, h => h
  | c :: cs, _, j, h => BlkW.setCells cs (j + 1) (h.setCell j c)
theorem cell_setCells_lt {b : Nat} : ∀ (cs : List Value) (w : World) (j x : Nat), x < j → (setCells w b j cs).cell? ⟨b, x, none⟩ = w.cell? ⟨b, x, none⟩
  | [], _, _, _, _ => rfl
  | c :: cs, w, j, x, h => by
    rw [Go.Proofs.YtcpjhpjlcgcigaaGreatDoor.setCells, cell_setCells_lt cs _ (j + 1) x (by omega), World.cell?_setCell_other]
    intro e; simp only [Addr.mk.injEq] at e; omega
theorem cell_setCells_at {b N : Nat} : ∀ (cs : List Value) (w : World) (j i : Nat), BlkW w b N → j + cs.length ≤ N → i < cs.length → (setCells w b j cs).cell? ⟨b, j + i, none⟩ = cs[i]?
  | [], _, _, _, _, _, h => by simp at h
  | c :: cs, w, j, 0, hb, hn, _ => by
    simp only [List.length_cons] at hn
    obtain ⟨u, hu⟩ := hb.cell (j := j) (by omega)
    show (setCells _ b j (c :: cs)).cell? ⟨b, j, none⟩ = some c
    rw [Go.Proofs.YtcpjhpjlcgcigaaGreatDoor.setCells, cell_setCells_lt cs _ (j + 1) j (by omega), World.cell?_setCell_same _ _ _ hu]
  | c :: cs, w, j, i + 1, hb, hn, hi => by
    simp only [List.length_cons] at hn hi
    rw [Go.Proofs.YtcpjhpjlcgcigaaGreatDoor.setCells, show j + (i + 1) = j + 1 + i by omega, cell_setCells_at cs _ (j + 1) i (hb.setCell j c) (by omega) (by omega)]; rfl

/-- n elements of m cells each hold marks, from the number k0 on. -/
def MFlat (m : Nat) (f : Nat → Int → Value) (w : World) (a : Option Addr) (n : Nat) (k0 : Int) : Prop :=
  n = 0 ∨ ∃ b o, a = some ⟨b, o, none⟩ ∧ b < w.heap.size ∧ ∀ j, j < n → ∀ i, i < m → w.cell? ⟨b, o + j * m + i, none⟩ = some (f i (k0 + ((j * m + i : Nat) : Int)))
theorem MFlat.ext {m : Nat} {f : Nat → Int → Value} {w w' : World} {a : Option Addr} {n : Nat} {k0 : Int} (h : MFlat m f w a n k0) (x : Ext w w') : MFlat m f w' a n k0 := by
  rcases h with h | ⟨b, o, h1, h2, h3⟩
  · exact Or.inl h
  · exact Or.inr ⟨b, o, h1, Nat.lt_of_lt_of_le h2 (Below.size x), fun j hj i hi => by rw [x.cell h2]; exact h3 j hj i hi⟩

/-- The first block of a slice that is not empty, and its cells. -/
theorem rep_blk {α : Type} [Inhabited α] {T : Ty α} {w : World} {l : List α} {bs : List Nat} {a : Option Addr} {c : Nat} (h : (tSl T).rep w l bs [.slice a l.length c]) (hn : 0 < T.n) (hl : 0 < l.length) (hu : ∀ k ∈ bs, Un w k) :
    ∃ b o, a = some ⟨b, o, none⟩ ∧ b ∈ bs ∧ BlkW w b (o + l.length * T.n) := by
  obtain ⟨a', c', h1, _, _, _, h | ⟨b, o, bss, ha, hb, hbs, hlen, he⟩⟩ := h
  · obtain ⟨rfl, _⟩ := h; simp at hl
  · simp only [List.cons.injEq, Value.slice.injEq, and_true] at h1
    obtain ⟨rfl, _, rfl⟩ := h1
    subst ha hbs
    refine ⟨b, o, rfl, by simp, ?_⟩
    obtain ⟨cur, e, hh⟩ := hu b (by simp)
    refine ⟨cur, e, hh, ?_⟩
    obtain ⟨cs, hr, hc⟩ := he (l.length - 1) (by omega)
    have h2 := hc (T.n - 1) (by omega)
    have hlc := T.len hr
    rw [List.getElem?_eq_getElem (by omega), cell_of_row w b _ cur e (0, 0) hh] at h2
    have h3 := (Array.getElem?_eq_some_iff.1 h2).1
    have h4 : (l.length - 1) * T.n + T.n = l.length * T.n := by
      have : l.length - 1 + 1 = l.length := by omega
      rw [← Nat.succ_mul, Nat.succ_eq_add_one, this]
    omega
end Go.Proofs.YtcpjhpjlcgcigaaGreatDoor
