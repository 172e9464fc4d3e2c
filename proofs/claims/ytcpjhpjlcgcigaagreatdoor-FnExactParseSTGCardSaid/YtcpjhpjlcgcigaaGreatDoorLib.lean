/- Plain helpers for the walks of this seat: how values of Go types lie in memory (Ty), what a later world keeps (Ext), lists by index. No condition. -/
import Derived.Test.YtcpjhpjlcgcigaaGreatDoorRows
import Derived.WalkKit
import Derived.ProofKit
import Derived.OpenShut
import Derived.Deep.QuietTactic
import Derived.BigQuiet
import Derived.Lib.Hide
set_option linter.unusedSimpArgs false
set_option linter.unusedVariables false
namespace Go.Proofs.YtcpjhpjlcgcigaaGreatDoor
open Go.ChangeShapes Go.WideShapes Go.ChangeAt Go.RowKit

/-- A later world: all that was there is as it was. -/
def Ext (w w' : World) : Prop := Below w.heap.size w w'

theorem Ext.refl (w : World) : Ext w w := Below.refl _ _
theorem Ext.size {w w' : World} (h : Ext w w') : w.heap.size ≤ w'.heap.size := Below.size h
theorem Ext.trans {a b c : World} (h : Ext a b) (k : Ext b c) : Ext a c := Below.trans h (Below.mono k h.size)
theorem Ext.below {B : Nat} {a b c : World} (h : Below B a b) (k : Ext b c) (hB : B ≤ b.heap.size) : Below B a c := Below.trans h (Below.mono k hB)
theorem Ext.drew {a b : World} (h : Ext a b) : Ext a b.drew := Below.drew h
theorem below_drewN {B : Nat} {a b : World} (h : Below B a b) (n : Nat) : Below B a (b.drewN n) := ⟨h.os, h.tape, h.output, h.size, h.block⟩
theorem Ext.drewN {a b : World} (h : Ext a b) (n : Nat) : Ext a (b.drewN n) := below_drewN h n
theorem Ext.alloc {a b : World} (h : Ext a b) (o : Obj) : Ext a (b.alloc o) := Below.alloc h h.size o
theorem Ext.cell {w w' : World} (h : Ext w w') {b o : Nat} (hb : b < w.heap.size) : w'.cell? ⟨b, o, none⟩ = w.cell? ⟨b, o, none⟩ := Below.cell (p := ⟨b, o, none⟩) h hb
theorem Ext.heap {w w' : World} (h : Ext w w') {k : Nat} (hk : k < w.heap.size) : w'.heap[k]? = w.heap[k]? := h.block k hk
theorem Ext.grown {a b c : World} (h : Ext a b) (g : b.grownBy c none) : Ext a c := Below.grown h g h.size (fun _ e => by cases e)
theorem cell_of_heap {w w' : World} {b o : Nat} (h : w'.heap[b]? = w.heap[b]?) : w'.cell? ⟨b, o, none⟩ = w.cell? ⟨b, o, none⟩ := World.cell?_of_block (a := ⟨b, o, none⟩) h
theorem lt_of_cell {w : World} {b o : Nat} {v : Value} (h : w.cell? ⟨b, o, none⟩ = some v) : b < w.heap.size := by
  unfold World.cell? at h
  cases hb : w.heap[b]? with
  | none => simp [hb] at h
  | some x => exact (Array.getElem?_eq_some_iff.1 hb).1

/-- Of a later world: the cells and marks of an earlier one, in the walk's own form. -/
theorem Ext.cells {w w1 : World} (hb : Ext w w1) : (∀ b o, b < w.heap.size → w1.cell? ⟨b, o, none⟩ = w.cell? ⟨b, o, none⟩) ∧ (∀ b o, b < w.heap.size → w1.frozen? ⟨b, o, none⟩ = w.frozen? ⟨b, o, none⟩) :=
  ⟨fun _ _ h => Below.cell (p := ⟨_, _, none⟩) hb h, fun _ _ h => Below.frozen (p := ⟨_, _, none⟩) hb h⟩

/-- An element by its index. -/
def nth {α : Type} [Inhabited α] (l : List α) (i : Nat) : α := l.getD i default
theorem nth_get {α : Type} [Inhabited α] {l : List α} {i : Nat} (h : i < l.length) : nth l i = l[i] := by simp [nth, h]
theorem nth_cons_succ {α : Type} [Inhabited α] (x : α) (l : List α) (i : Nat) : nth (x :: l) (i + 1) = nth l i := by simp [nth]
theorem nth_cons_zero {α : Type} [Inhabited α] (x : α) (l : List α) : nth (x :: l) 0 = x := by simp [nth]
theorem drop_nth {α : Type} [Inhabited α] {l : List α} {i : Nat} (h : i < l.length) : l.drop i = nth l i :: l.drop (i + 1) := by
  rw [nth_get h]; exact List.drop_eq_getElem_cons h
theorem take_nth {α : Type} [Inhabited α] {l : List α} {i : Nat} (h : i < l.length) : l.take (i + 1) = l.take i ++ [nth l i] := by
  rw [nth_get h, List.take_succ_eq_append_getElem h]
theorem nth_mem {α : Type} [Inhabited α] {l : List α} {i : Nat} (h : i < l.length) : nth l i ∈ l := by
  rw [nth_get h]; exact List.getElem_mem h
theorem drop_len {α : Type} (l : List α) {i : Nat} (h : l.length ≤ i) : l.drop i = [] := List.drop_eq_nil_of_le h

/-- How the values of one Go type lie: so many cells; the cells' values; the blocks that lie behind them. -/
structure Ty (α : Type) where
  n : Nat
  rep : World → α → List Nat → List Value → Prop
  len : ∀ {w x bs cs}, rep w x bs cs → cs.length = n
  keep : ∀ {w w' : World} {x bs cs}, (∀ k ∈ bs, w'.heap[k]? = w.heap[k]?) → rep w x bs cs → rep w' x bs cs
  inb : ∀ {w x bs cs}, rep w x bs cs → ∀ k ∈ bs, k < w.heap.size

/-- A list that lies at an address, element after element; 'bs': its own block, then those behind its elements. -/
def Sl {α : Type} [Inhabited α] (T : Ty α) (w : World) (a : Option Addr) (l : List α) (bs : List Nat) : Prop :=
  (l = [] ∧ bs = []) ∨ ∃ b o bss, a = some ⟨b, o, none⟩ ∧ b < w.heap.size ∧ bs = b :: bss.flatten ∧ bss.length = l.length ∧
    ∀ i, i < l.length → ∃ cs, T.rep w (nth l i) (nth bss i) cs ∧ ∀ j, j < T.n → w.cell? ⟨b, o + i * T.n + j, none⟩ = cs[j]?

theorem mem_nth_flatten {bss : List (List Nat)} {i k : Nat} (hi : i < bss.length) (h : k ∈ nth bss i) : k ∈ bss.flatten :=
  List.mem_flatten.2 ⟨_, nth_mem hi, h⟩

theorem Sl.keep {α : Type} [Inhabited α] {T : Ty α} {w w' : World} {a : Option Addr} {l : List α} {bs : List Nat} (hk : ∀ k ∈ bs, w'.heap[k]? = w.heap[k]?) (h : Sl T w a l bs) : Sl T w' a l bs := by
  rcases h with h | ⟨b, o, bss, ha, hb, hbs, hl, he⟩
  · exact Or.inl h
  · subst hbs
    have hbb : w'.heap[b]? = w.heap[b]? := hk b (by simp)
    refine Or.inr ⟨b, o, bss, ha, ?_, rfl, hl, fun i hi => ?_⟩
    · have : w'.heap[b]?.isSome := by rw [hbb]; simp [hb]
      simpa using this
    · obtain ⟨cs, h1, h2⟩ := he i hi
      refine ⟨cs, T.keep (fun k hm => hk k (List.mem_cons_of_mem _ (mem_nth_flatten (by omega) hm))) h1, fun j hj => ?_⟩
      rw [cell_of_heap hbb]; exact h2 j hj

theorem Sl.inb {α : Type} [Inhabited α] {T : Ty α} {w : World} {a : Option Addr} {l : List α} {bs : List Nat} (h : Sl T w a l bs) : ∀ k ∈ bs, k < w.heap.size := by
  rcases h with ⟨_, rfl⟩ | ⟨b, o, bss, ha, hb, hbs, hl, he⟩
  · simp
  · subst hbs
    intro k hk
    rcases List.mem_cons.1 hk with rfl | hk
    · exact hb
    · obtain ⟨l', hl', hkl⟩ := List.mem_flatten.1 hk
      obtain ⟨i, hi, rfl⟩ := List.getElem_of_mem hl'
      obtain ⟨cs, h1, _⟩ := he i (by omega)
      exact T.inb h1 k (by rw [nth_get hi]; exact hkl)

def Int64 (n : Int) : Prop := -9223372036854775808 ≤ n ∧ n ≤ 9223372036854775807

def tInt : Ty Int where
  n := 1
  rep _ x bs cs := bs = [] ∧ cs = [.int .i64 x] ∧ Int64 x
  len h := by rw [h.2.1]; rfl
  keep _ h := h
  inb h := by rw [h.1]; simp

def tByte : Ty UInt8 where
  n := 1
  rep _ x bs cs := bs = [] ∧ cs = [.int .u8 x.toNat]
  len h := by rw [h.2]; rfl
  keep _ h := h
  inb h := by rw [h.1]; simp

def tBool : Ty Bool where
  n := 1
  rep _ x bs cs := bs = [] ∧ cs = [.bool x]
  len h := by rw [h.2]; rfl
  keep _ h := h
  inb h := by rw [h.1]; simp

def tStr : Ty ByteArray where
  n := 1
  rep _ x bs cs := bs = [] ∧ cs = [.string x] ∧ x.size ≤ 9223372036854775807
  len h := by rw [h.2.1]; rfl
  keep _ h := h
  inb h := by rw [h.1]; simp

def tSl {α : Type} [Inhabited α] (T : Ty α) : Ty (List α) where
  n := 1
  rep w l bs cs := ∃ a cap, cs = [.slice a l.length cap] ∧ l.length ≤ cap ∧ cap ≤ 9223372036854775807 ∧ (a = none → cap = 0) ∧ Sl T w a l bs
  len h := by obtain ⟨a, cap, rfl, _⟩ := h; rfl
  keep hk h := by obtain ⟨a, cap, h1, h2, h3, h4, h5⟩ := h; exact ⟨a, cap, h1, h2, h3, h4, h5.keep hk⟩
  inb h := by obtain ⟨a, cap, h1, h2, h3, h4, h5⟩ := h; exact h5.inb

def tPair {α β : Type} (T : Ty α) (U : Ty β) : Ty (α × β) where
  n := T.n + U.n
  rep w x bs cs := ∃ b1 b2 c1 c2, bs = b1 ++ b2 ∧ cs = c1 ++ c2 ∧ T.rep w x.1 b1 c1 ∧ U.rep w x.2 b2 c2
  len h := by obtain ⟨b1, b2, c1, c2, rfl, rfl, h1, h2⟩ := h; simp [T.len h1, U.len h2]
  keep hk h := by
    obtain ⟨b1, b2, c1, c2, rfl, rfl, h1, h2⟩ := h
    exact ⟨b1, b2, c1, c2, rfl, rfl, T.keep (fun k m => hk k (List.mem_append_left _ m)) h1, U.keep (fun k m => hk k (List.mem_append_right _ m)) h2⟩
  inb h := by
    obtain ⟨b1, b2, c1, c2, rfl, rfl, h1, h2⟩ := h
    intro k hk
    rcases List.mem_append.1 hk with hk | hk
    · exact T.inb h1 k hk
    · exact U.inb h2 k hk

def tIso {α β : Type} (T : Ty α) (f : β → α) : Ty β where
  n := T.n
  rep w x bs cs := T.rep w (f x) bs cs
  len h := T.len h
  keep hk h := T.keep hk h
  inb h := T.inb h

/-- Readable, whatever the blocks. -/
def SlR {α : Type} [Inhabited α] (T : Ty α) (w : World) (a : Option Addr) (l : List α) : Prop := ∃ bs, Sl T w a l bs
theorem SlR.ext {α : Type} [Inhabited α] {T : Ty α} {w w' : World} {a : Option Addr} {l : List α} (h : SlR T w a l) (e : Ext w w') : SlR T w' a l := by
  obtain ⟨bs, h⟩ := h; exact ⟨bs, h.keep fun k hk => e.heap (h.inb k hk)⟩

/-- Read alone: nothing is said of the blocks. For a type's cells at one place. -/
def Ty.at {α : Type} (T : Ty α) (w : World) (b o : Nat) (x : α) : Prop := ∃ bs cs, T.rep w x bs cs ∧ ∀ j, j < T.n → w.cell? ⟨b, o + j, none⟩ = cs[j]?

theorem SlR.get {α : Type} [Inhabited α] {T : Ty α} {w : World} {a : Option Addr} {l : List α} (h : SlR T w a l) (hl : 0 < l.length) :
    ∃ b o, a = some ⟨b, o, none⟩ ∧ b < w.heap.size ∧ ∀ i, i < l.length → T.at w b (o + i * T.n) (nth l i) := by
  obtain ⟨bs, h | ⟨b, o, bss, ha, hb, hbs, hl', he⟩⟩ := h
  · obtain ⟨rfl, _⟩ := h; simp at hl
  · exact ⟨b, o, ha, hb, fun i hi => by obtain ⟨cs, h1, h2⟩ := he i hi; exact ⟨_, cs, h1, h2⟩⟩

theorem at_int {w : World} {b o : Nat} {x : Int} (h : tInt.at w b o x) : w.cell? ⟨b, o, none⟩ = some (.int .i64 x) ∧ Int64 x := by
  obtain ⟨bs, cs, ⟨_, rfl, hx⟩, h2⟩ := h
  exact ⟨by simpa using h2 0 (by decide), hx⟩
theorem at_byte {w : World} {b o : Nat} {x : UInt8} (h : tByte.at w b o x) : w.cell? ⟨b, o, none⟩ = some (.int .u8 x.toNat) := by
  obtain ⟨bs, cs, ⟨_, rfl⟩, h2⟩ := h
  simpa using h2 0 (by decide)
theorem at_bool {w : World} {b o : Nat} {x : Bool} (h : tBool.at w b o x) : w.cell? ⟨b, o, none⟩ = some (.bool x) := by
  obtain ⟨bs, cs, ⟨_, rfl⟩, h2⟩ := h
  simpa using h2 0 (by decide)
theorem at_str {w : World} {b o : Nat} {x : ByteArray} (h : tStr.at w b o x) : w.cell? ⟨b, o, none⟩ = some (.string x) ∧ x.size ≤ 9223372036854775807 := by
  obtain ⟨bs, cs, ⟨_, rfl, hx⟩, h2⟩ := h
  exact ⟨by simpa using h2 0 (by decide), hx⟩
theorem at_sl {α : Type} [Inhabited α] {T : Ty α} {w : World} {b o : Nat} {x : List α} (h : (tSl T).at w b o x) :
    ∃ a cap, w.cell? ⟨b, o, none⟩ = some (.slice a x.length cap) ∧ x.length ≤ cap ∧ cap ≤ 9223372036854775807 ∧ (a = none → cap = 0) ∧ SlR T w a x := by
  obtain ⟨bs, cs, ⟨a, cap, rfl, h3, h4, h5, h6⟩, h2⟩ := h
  exact ⟨a, cap, by simpa using h2 0 (by simp [tSl]), h3, h4, h5, bs, h6⟩
theorem at_pair {α β : Type} {T : Ty α} {U : Ty β} {w : World} {b o : Nat} {x : α × β} (h : (tPair T U).at w b o x) : T.at w b o x.1 ∧ U.at w b (o + T.n) x.2 := by
  obtain ⟨bs, cs, ⟨b1, b2, c1, c2, rfl, rfl, h1, h2⟩, h3⟩ := h
  have l1 := T.len h1
  have l2 := U.len h2
  refine ⟨⟨b1, c1, h1, fun j hj => ?_⟩, ⟨b2, c2, h2, fun j hj => ?_⟩⟩
  · have := h3 j (by simp only [tPair]; omega)
    rw [this, List.getElem?_append_left (by omega)]
  · have := h3 (T.n + j) (by simp only [tPair]; omega)
    rw [show o + T.n + j = o + (T.n + j) by omega, this, List.getElem?_append_right (by omega)]
    congr 1; omega
theorem at_iso {α β : Type} {T : Ty α} {f : β → α} {w : World} {b o : Nat} {x : β} (h : (tIso T f).at w b o x) : T.at w b o (f x) := h
theorem Ty.at.ext {α : Type} {T : Ty α} {w w' : World} {b o : Nat} {x : α} (h : T.at w b o x) (e : Ext w w') (hb : b < w.heap.size) : T.at w' b o x := by
  obtain ⟨bs, cs, h1, h2⟩ := h
  exact ⟨bs, cs, T.keep (fun k hk => e.heap (T.inb h1 k hk)) h1, fun j hj => by rw [e.cell hb]; exact h2 j hj⟩

theorem SlR.int64 {w : World} {a : Option Addr} {l : List Int} (h : SlR tInt w a l) : ∀ x ∈ l, Int64 x := by
  intro x hx
  obtain ⟨i, hi, rfl⟩ := List.getElem_of_mem hx
  obtain ⟨b, o, _, _, hel⟩ := h.get (by omega)
  have := (at_int (hel i hi)).2
  rwa [nth_get hi] at this

theorem SlR.strsize {w : World} {a : Option Addr} {l : List ByteArray} (h : SlR tStr w a l) : ∀ x ∈ l, x.size ≤ 9223372036854775807 := by
  intro x hx
  obtain ⟨i, hi, rfl⟩ := List.getElem_of_mem hx
  obtain ⟨b, o, _, _, hel⟩ := h.get (by omega)
  have := (at_str (hel i hi)).2
  rwa [nth_get hi] at this

theorem ret_int {k : IntKind} {a b : Int} (h : a = b) : Ending.returned (.int k a) = .returned (.int k b) := by rw [h]
theorem ret_bool {a b : Bool} (h : a = b) : Ending.returned (.bool a) = .returned (.bool b) := by rw [h]
theorem ret_int_bool {k : IntKind} {a b : Int} {p q : Bool} (h : a = b) (h' : p = q) : Ending.returned (.tuple #[.int k a, .bool p]) = .returned (.tuple #[.int k b, .bool q]) := by rw [h, h']
theorem ret_bool_bool {a b : Bool} {p q : Bool} (h : a = b) (h' : p = q) : Ending.returned (.tuple #[.bool a, .bool p]) = .returned (.tuple #[.bool b, .bool q]) := by rw [h, h']
end Go.Proofs.YtcpjhpjlcgcigaaGreatDoor
