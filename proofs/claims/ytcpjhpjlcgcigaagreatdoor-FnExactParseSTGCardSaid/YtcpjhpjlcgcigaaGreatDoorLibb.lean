/- Plain helpers, second part: rows of cells that a call owns (Row), fresh values (Fr), regions that draw their order in a later world. No condition. -/
import Derived.Test.YtcpjhpjlcgcigaaGreatDoorLib
set_option linter.unusedSimpArgs false
set_option linter.unusedVariables false
namespace Go.Proofs.YtcpjhpjlcgcigaaGreatDoor
open Go.ChangeShapes Go.WideShapes Go.ChangeAt Go.RowKit

/-- The cells xs are those of the list l, element after element; bss: the blocks behind each element. -/
def Row {α : Type} [Inhabited α] (T : Ty α) (w : World) (l : List α) (bss : List (List Nat)) (xs : List Value) : Prop :=
  xs.length = l.length * T.n ∧ bss.length = l.length ∧ ∀ i, i < l.length → T.rep w (nth l i) (nth bss i) ((xs.drop (i * T.n)).take T.n)

section
variable {α : Type} [Inhabited α] {T : Ty α}

theorem Row.nil (w : World) : Row T w [] [] [] := ⟨by simp, rfl, fun i hi => by simp at hi⟩

theorem Row.inb {w : World} {l : List α} {bss xs} (h : Row T w l bss xs) : ∀ k ∈ bss.flatten, k < w.heap.size := by
  intro k hk
  obtain ⟨l', hl', hkl⟩ := List.mem_flatten.1 hk
  obtain ⟨i, hi, rfl⟩ := List.getElem_of_mem hl'
  exact T.inb (h.2.2 i (by have := h.2.1; omega)) k (by rw [nth_get hi]; exact hkl)

theorem Row.keep {w w' : World} {l : List α} {bss xs} (hk : ∀ k ∈ bss.flatten, w'.heap[k]? = w.heap[k]?) (h : Row T w l bss xs) : Row T w' l bss xs :=
  ⟨h.1, h.2.1, fun i hi => T.keep (fun k hm => hk k (mem_nth_flatten (by have := h.2.1; omega) hm)) (h.2.2 i hi)⟩

theorem Row.ext {w w' : World} {l : List α} {bss xs} (h : Row T w l bss xs) (e : Ext w w') : Row T w' l bss xs := h.keep fun k hk => e.heap (h.inb k hk)

theorem mul_lt_of {i n m : Nat} (h : i < n) : i * m + m ≤ n * m := by
  have : (i + 1) * m ≤ n * m := Nat.mul_le_mul_right m h
  rw [Nat.add_mul] at this; omega

theorem Row.snoc {w : World} {l : List α} {bss xs} (h : Row T w l bss xs) {x : α} {bs : List Nat} {cs : List Value} (hx : T.rep w x bs cs) : Row T w (l ++ [x]) (bss ++ [bs]) (xs ++ cs) := by
  obtain ⟨h1, h2, h3⟩ := h
  refine ⟨by simp [h1, T.len hx, Nat.add_mul], by simp [h2], fun i hi => ?_⟩
  simp only [List.length_append, List.length_cons, List.length_nil] at hi
  by_cases e : i < l.length
  · have a1 : nth (l ++ [x]) i = nth l i := by simp only [nth, List.getD_eq_getElem?_getD]; rw [List.getElem?_append_left e]
    have a2 : nth (bss ++ [bs]) i = nth bss i := by simp only [nth, List.getD_eq_getElem?_getD]; rw [List.getElem?_append_left (by omega)]
    rw [a1, a2]
    have hm := mul_lt_of (m := T.n) e
    have : ((xs ++ cs).drop (i * T.n)).take T.n = (xs.drop (i * T.n)).take T.n := by
      rw [List.drop_append_of_le_length (by omega), List.take_append_of_le_length (by simp; omega)]
    rw [this]; exact h3 i e
  · obtain rfl : i = l.length := by omega
    have a1 : nth (l ++ [x]) l.length = x := by simp [nth]
    have a2 : nth (bss ++ [bs]) l.length = bs := by simp [nth, h2.symm]
    have : ((xs ++ cs).drop (l.length * T.n)).take T.n = cs := by
      rw [← h1, List.drop_left, List.take_of_length_le (by simp [T.len hx])]
    rw [a1, a2, this]; exact hx

/-- A row that a call owns reads as a list. -/
theorem Sl.of_own {w : World} {base : Nat} {e : TypeId} {v : Value} {l : List α} {bss : List (List Nat)} {xs : List Value} (ho : w.ownsRow base e T.n v l.length xs) (hr : Row T w l bss xs) :
    ∃ a cap bs, v = .slice a l.length cap ∧ l.length ≤ cap ∧ cap ≤ 9223372036854775807 ∧ (a = none → cap = 0) ∧ Sl T w a l bs ∧
      ((bs = [] ∧ a = none) ∨ ∃ b, a = some ⟨b, 0, none⟩ ∧ bs = b :: bss.flatten ∧ base ≤ b ∧ v.ownBlock = some b) := by
  obtain ⟨hx, ⟨rfl, hn⟩ | ⟨g, cap, cur, rfl, hg, hh, h1, h2, h3, h4⟩⟩ := ho
  · have : l = [] := List.eq_nil_of_length_eq_zero hn
    subst this
    exact ⟨none, 0, [], rfl, by simp, by omega, fun _ => rfl, Or.inl ⟨rfl, rfl⟩, Or.inl ⟨rfl, rfl⟩⟩
  · have hsz : g < w.heap.size := (Array.getElem?_eq_some_iff.1 hh).1
    refine ⟨some ⟨g, 0, none⟩, cap, g :: bss.flatten, rfl, h1, by unfold maxLen at h2; omega, by simp, Or.inr ⟨g, 0, bss, rfl, hsz, rfl, hr.2.1, fun i hi => ⟨_, hr.2.2 i hi, fun j hj => ?_⟩⟩, Or.inr ⟨g, rfl, rfl, hg, rfl⟩⟩
    have hm := mul_lt_of (m := T.n) hi
    rw [cell_of_row w g _ cur e (0, 0) hh, List.getElem?_take, if_pos hj, List.getElem?_drop, ← h4, List.getElem?_take, if_pos (by omega)]
    simp
end

/-- The cells of a row that a call owns: they are there. -/
theorem own_cell {w : World} {base : Nat} {e : TypeId} {size g n cap : Nat} {xs : List Value} (h : w.ownsRow base e size (.slice (some ⟨g, 0, none⟩) n cap) n xs) {j : Nat} (hj : j < n * size) : ∃ u, w.cell? ⟨g, j, none⟩ = some u := by
  have h1 := h.cellAt j hj
  rw [List.getElem?_eq_getElem (by rw [h.1]; exact hj)] at h1
  exact ⟨_, h1⟩
theorem take_set_snoc {α : Type} (xs : List α) (k : Nat) (u : α) (h : k < xs.length) : (xs.set k u).take (k + 1) = xs.take k ++ [u] := by
  rw [List.take_succ_eq_append_getElem (by simpa using h)]
  congr 1
  · rw [List.take_set_of_le (Nat.le_refl _)]
  · simp

/-- A block of cells that can be written. -/
def Un (w : World) (k : Nat) : Prop := ∃ cs e, w.heap[k]? = some (.cells cs e (0, 0))
theorem Un.lt {w : World} {k : Nat} (h : Un w k) : k < w.heap.size := by obtain ⟨cs, e, h⟩ := h; exact (Array.getElem?_eq_some_iff.1 h).1
theorem Un.keep {w w' : World} {k : Nat} (h : Un w k) (e : w'.heap[k]? = w.heap[k]?) : Un w' k := by obtain ⟨cs, t, h⟩ := h; exact ⟨cs, t, by rw [e]; exact h⟩
theorem Un.ext {w w' : World} {k : Nat} (h : Un w k) (e : Ext w w') : Un w' k := h.keep (e.heap h.lt)

/-- A value of a type in memory of its own, in the blocks from lo up to hi, that can be written: no two of its slices share a block. -/
def Fr {α : Type} (T : Ty α) (lo hi : Nat) (w : World) (x : α) (cs : List Value) : Prop := ∃ bs, T.rep w x bs cs ∧ bs.Nodup ∧ ∀ k ∈ bs, lo ≤ k ∧ k < hi ∧ Un w k

section
variable {α β : Type} {T : Ty α} {U : Ty β} {lo hi lo' hi' mid : Nat} {w w' : World} {x : α} {y : β} {cs ds : List Value}

theorem Fr.ext (h : Fr T lo hi w x cs) (e : Ext w w') : Fr T lo hi w' x cs := by
  obtain ⟨bs, h1, h2, h3⟩ := h; exact ⟨bs, T.keep (fun k hk => e.heap (T.inb h1 k hk)) h1, h2, fun k hk => ⟨(h3 k hk).1, (h3 k hk).2.1, (h3 k hk).2.2.ext e⟩⟩
theorem Fr.mono (h : Fr T lo hi w x cs) (e : lo' ≤ lo) (e' : hi ≤ hi') : Fr T lo' hi' w x cs := by
  obtain ⟨bs, h1, h2, h3⟩ := h; exact ⟨bs, h1, h2, fun k hk => ⟨by have := h3 k hk; omega, by have := h3 k hk; omega, (h3 k hk).2.2⟩⟩
theorem Fr.low (h : Fr T lo hi w x cs) (e : lo' ≤ lo) : Fr T lo' hi w x cs := h.mono e (Nat.le_refl _)
/-- A change elsewhere. -/
theorem Fr.keep (h : Fr T lo hi w x cs) (e : ∀ k, lo ≤ k → k < hi → k < w.heap.size → w'.heap[k]? = w.heap[k]?) : Fr T lo hi w' x cs := by
  obtain ⟨bs, h1, h2, h3⟩ := h; exact ⟨bs, T.keep (fun k hk => e k (h3 k hk).1 (h3 k hk).2.1 (T.inb h1 k hk)) h1, h2, fun k hk => ⟨(h3 k hk).1, (h3 k hk).2.1, (h3 k hk).2.2.keep (e k (h3 k hk).1 (h3 k hk).2.1 (T.inb h1 k hk))⟩⟩
theorem Fr.setCell (h : Fr T lo hi w x cs) {p : Addr} (hp : p.block < lo ∨ hi ≤ p.block) (u : Value) : Fr T lo hi (w.setCell p u) x cs :=
  h.keep fun k _ _ _ => Below.heap_setCell _ _ _ _ (by omega)
theorem Fr.alloc (h : Fr T lo hi w x cs) (o : Obj) : Fr T lo hi (w.alloc o) x cs := h.ext ((Ext.refl _).alloc o)
theorem Fr.top (h : Fr T lo hi w x cs) : Fr T lo w.heap.size w x cs := by
  obtain ⟨bs, h1, h2, h3⟩ := h; exact ⟨bs, h1, h2, fun k hk => ⟨(h3 k hk).1, T.inb h1 k hk, (h3 k hk).2.2⟩⟩
theorem Fr.iso {f : β → α} (h : Fr T lo hi w (f y) cs) : Fr (tIso T f) lo hi w y cs := h
theorem Fr.pair {z : α × β} (h : Fr T lo mid w z.1 cs) (k : Fr U mid hi w z.2 ds) (h1 : lo ≤ mid) (h2 : mid ≤ hi) : Fr (tPair T U) lo hi w z (cs ++ ds) := by
  obtain ⟨b1, r1, n1, l1⟩ := h
  obtain ⟨b2, r2, n2, l2⟩ := k
  refine ⟨b1 ++ b2, ⟨b1, b2, cs, ds, rfl, rfl, r1, r2⟩, List.nodup_append.2 ⟨n1, n2, fun a ha b hb e => ?_⟩, fun k hk => ?_⟩
  · subst e; have := l1 a ha; have := l2 a hb; omega
  · rcases List.mem_append.1 hk with hk | hk
    · exact ⟨(l1 k hk).1, by have := l1 k hk; omega, (l1 k hk).2.2⟩
    · exact ⟨by have := l2 k hk; omega, (l2 k hk).2.1, (l2 k hk).2.2⟩
theorem fr_int {n : Int} (h : Int64 n) : Fr tInt lo hi w n [.int .i64 n] := ⟨[], ⟨rfl, rfl, h⟩, by simp, by simp⟩
theorem fr_bool {b : Bool} : Fr tBool lo hi w b [.bool b] := ⟨[], ⟨rfl, rfl⟩, by simp, by simp⟩
theorem fr_str {s : ByteArray} (h : s.size ≤ 9223372036854775807) : Fr tStr lo hi w s [.string s] := ⟨[], ⟨rfl, rfl, h⟩, by simp, by simp⟩

/-- A value that reads so, whatever the blocks. -/
def Ty.R (T : Ty α) (w : World) (x : α) (cs : List Value) : Prop := ∃ bs, T.rep w x bs cs
theorem Fr.R (h : Fr T lo hi w x cs) : T.R w x cs := by obtain ⟨bs, h, _⟩ := h; exact ⟨bs, h⟩
theorem Ty.R.ext (h : T.R w x cs) (e : Ext w w') : T.R w' x cs := by obtain ⟨bs, h⟩ := h; exact ⟨bs, T.keep (fun k hk => e.heap (T.inb h k hk)) h⟩
theorem R_pair {z : α × β} : (tPair T U).R w z cs ↔ T.R w z.1 (cs.take T.n) ∧ U.R w z.2 (cs.drop T.n) := by
  constructor
  · rintro ⟨bs, b1, b2, c1, c2, rfl, rfl, h1, h2⟩
    have := T.len h1
    rw [← this, List.take_left, List.drop_left]
    exact ⟨⟨_, h1⟩, ⟨_, h2⟩⟩
  · rintro ⟨⟨b1, h1⟩, ⟨b2, h2⟩⟩
    exact ⟨_, b1, b2, _, _, rfl, (List.take_append_drop _ _).symm, h1, h2⟩
theorem R_iso {f : β → α} : (tIso T f).R w y cs ↔ T.R w (f y) cs := Iff.rfl
theorem R_int {n m : Int} : tInt.R w n [.int .i64 m] ↔ m = n ∧ Int64 n := by
  constructor
  · rintro ⟨bs, _, h, h'⟩; simp at h; exact ⟨h, h'⟩
  · rintro ⟨rfl, h⟩; exact ⟨[], rfl, rfl, h⟩
theorem R_bool {n m : Bool} : tBool.R w n [.bool m] ↔ m = n := by
  constructor
  · rintro ⟨bs, _, h⟩; simpa using h
  · rintro rfl; exact ⟨[], rfl, rfl⟩
theorem R_str {n m : ByteArray} : tStr.R w n [.string m] ↔ m = n ∧ n.size ≤ 9223372036854775807 := by
  constructor
  · rintro ⟨bs, _, h, h'⟩; simp at h; exact ⟨h, h'⟩
  · rintro ⟨rfl, h⟩; exact ⟨[], rfl, rfl, h⟩
theorem R_sl [Inhabited α] {l : List α} {a : Option Addr} {n cap : Nat} : (tSl T).R w l [.slice a n cap] ↔ n = l.length ∧ n ≤ cap ∧ cap ≤ 9223372036854775807 ∧ (a = none → cap = 0) ∧ SlR T w a l := by
  constructor
  · rintro ⟨bs, a', cap', h1, h2, h3, h4, h5⟩
    simp at h1
    obtain ⟨rfl, rfl, rfl⟩ := h1
    exact ⟨rfl, h2, h3, h4, bs, h5⟩
  · rintro ⟨rfl, h2, h3, h4, bs, h5⟩; exact ⟨bs, a, cap, rfl, h2, h3, h4, h5⟩
/-- The cells at a place, and what they are. -/
theorem Ty.at.cells {b o : Nat} (h : T.at w b o x) : ∃ cs, T.R w x cs ∧ cs.length = T.n ∧ ∀ j, j < T.n → w.cell? ⟨b, o + j, none⟩ = cs[j]? := by
  obtain ⟨bs, cs, h1, h2⟩ := h; exact ⟨cs, ⟨bs, h1⟩, T.len h1, h2⟩
end

/-- A fresh slice, taken apart. -/
theorem Fr.sl {α : Type} [Inhabited α] {T : Ty α} {lo hi : Nat} {w : World} {l : List α} {v : Value} (h : Fr (tSl T) lo hi w l [v]) :
    ∃ a cap, v = .slice a l.length cap ∧ l.length ≤ cap ∧ cap ≤ 9223372036854775807 ∧ (a = none → cap = 0) ∧ SlR T w a l := by
  obtain ⟨bs, ⟨a, cap, h1, h2, h3, h4, h5⟩, _, _⟩ := h
  exact ⟨a, cap, by simpa using h1, h2, h3, h4, bs, h5⟩

/-- The blocks behind a row are fresh, can be written, and no two meet. -/
def FrB (lo : Nat) (w : World) (bss : List (List Nat)) : Prop := bss.flatten.Nodup ∧ ∀ k ∈ bss.flatten, lo ≤ k ∧ Un w k
theorem FrB.nil (lo : Nat) (w : World) : FrB lo w [] := ⟨by simp, by simp⟩
theorem FrB.ext {lo : Nat} {w w' : World} {bss : List (List Nat)} (h : FrB lo w bss) (x : Ext w w') : FrB lo w' bss := ⟨h.1, fun k hk => ⟨(h.2 k hk).1, (h.2 k hk).2.ext x⟩⟩
theorem FrB.keep {lo : Nat} {w w' : World} {bss : List (List Nat)} (h : FrB lo w bss) (x : ∀ k, lo ≤ k → w'.heap[k]? = w.heap[k]?) : FrB lo w' bss := ⟨h.1, fun k hk => ⟨(h.2 k hk).1, (h.2 k hk).2.keep (x k (h.2 k hk).1)⟩⟩
theorem FrB.snoc {lo mid : Nat} {w w' : World} {bss : List (List Nat)} (h : FrB lo w bss) (x : Ext w w') {bs : List Nat} (hn : bs.Nodup) (hb : ∀ k ∈ bs, mid ≤ k ∧ Un w' k) (h1 : lo ≤ mid) (h2 : w.heap.size ≤ mid) : FrB lo w' (bss ++ [bs]) := by
  refine ⟨?_, fun k hk => ?_⟩
  · simp only [List.flatten_append, List.flatten_cons, List.flatten_nil, List.append_nil]
    refine List.nodup_append.2 ⟨h.1, hn, fun a ha b hb' e => ?_⟩
    subst e
    have := (h.2 a ha).2.lt; have := (hb a hb').1; omega
  · simp only [List.flatten_append, List.flatten_cons, List.flatten_nil, List.append_nil, List.mem_append] at hk
    rcases hk with hk | hk
    · exact ⟨(h.2 k hk).1, (h.2 k hk).2.ext x⟩
    · exact ⟨by have := (hb k hk).1; omega, (hb k hk).2⟩
theorem FrB.mono {lo lo' : Nat} {w : World} {bss : List (List Nat)} (h : FrB lo w bss) (e : lo' ≤ lo) : FrB lo' w bss := ⟨h.1, fun k hk => ⟨by have := h.2 k hk; omega, (h.2 k hk).2⟩⟩

/-- An owned row of which the blocks behind are fresh is a fresh slice. -/
theorem Fr.of_own {α : Type} [Inhabited α] {T : Ty α} {w : World} {base lo : Nat} {e : TypeId} {v : Value} {l : List α} {bss : List (List Nat)} {xs : List Value} (ho : w.ownsRow base e T.n v l.length xs) (hr : Row T w l bss xs)
    (hl : lo ≤ base) (hf : FrB lo w bss) (hne : ∀ b, v.ownBlock = some b → b ∉ bss.flatten) : Fr (tSl T) lo w.heap.size w l [v] := by
  have hu : ∀ b, v.ownBlock = some b → Un w b := by
    intro b hb
    obtain ⟨_, ⟨rfl, _⟩ | ⟨g, cap, cur, rfl, _, hh, _⟩⟩ := ho
    · simp [Value.ownBlock] at hb
    · simp [Value.ownBlock] at hb; subst hb; exact ⟨cur, e, hh⟩
  obtain ⟨a, cap, bs, h1, h2, h3, h4, h5, h6⟩ := Sl.of_own ho hr
  refine ⟨bs, ⟨a, cap, by rw [h1], h2, h3, h4, h5⟩, ?_⟩
  rcases h6 with ⟨rfl, _⟩ | ⟨b, _, rfl, hb, ho⟩
  · simp
  · refine ⟨List.nodup_cons.2 ⟨hne b ho, hf.1⟩, fun k hk => ⟨?_, h5.inb k hk, ?_⟩⟩
    · rcases List.mem_cons.1 hk with rfl | hk
      · omega
      · exact (hf.2 k hk).1
    · rcases List.mem_cons.1 hk with rfl | hk
      · exact hu k ho
      · exact (hf.2 k hk).2

/-- The same where nothing lies behind the elements. -/
theorem Fr.of_own_flat {α : Type} [Inhabited α] {T : Ty α} {w : World} {base lo : Nat} {e : TypeId} {v : Value} {l : List α} {bss : List (List Nat)} {xs : List Value} (ho : w.ownsRow base e T.n v l.length xs) (hr : Row T w l bss xs)
    (hl : lo ≤ base) (hf : bss.flatten = []) : Fr (tSl T) lo w.heap.size w l [v] :=
  Fr.of_own ho hr hl ⟨by rw [hf]; simp, by rw [hf]; simp⟩ (fun b _ => by rw [hf]; simp)

/-- Cells written one after the other. -/
def setCells (w : World) (g j : Nat) : List Value → World
  | [] => w
  | c :: cs => setCells (w.setCell ⟨g, j, none⟩ c) g (j + 1) cs
def setRow (xs : List Value) (j : Nat) : List Value → List Value
  | [] => xs
  | c :: cs => setRow (xs.set j c) (j + 1) cs
theorem length_setRow : ∀ (cs : List Value) (xs : List Value) (j : Nat), (setRow xs j cs).length = xs.length
  | [], _, _ => rfl
  | c :: cs, xs, j => by rw [setRow, length_setRow cs]; simp
theorem take_setRow : ∀ (cs : List Value) (xs : List Value) (j : Nat), j + cs.length ≤ xs.length → (setRow xs j cs).take (j + cs.length) = xs.take j ++ cs
  | [], xs, j, _ => by simp [setRow]
  | c :: cs, xs, j, h => by
    simp only [List.length_cons] at h
    have := take_setRow cs (xs.set j c) (j + 1) (by simp; omega)
    rw [setRow, List.length_cons, show j + (cs.length + 1) = j + 1 + cs.length by omega, this, take_set_snoc _ _ _ (by omega)]
    simp
theorem own_setCells {base : Nat} {e : TypeId} {size g n cap : Nat} : ∀ (cs : List Value) (w : World) (xs : List Value) (j : Nat), w.ownsRow base e size (.slice (some ⟨g, 0, none⟩) n cap) n xs →
    (setCells w g j cs).ownsRow base e size (.slice (some ⟨g, 0, none⟩) n cap) n (setRow xs j cs) ∧ ∀ B, B ≤ g → B ≤ w.heap.size → Below B w (setCells w g j cs)
  | [], w, xs, j, h => ⟨h, fun _ _ _ => Below.refl _ _⟩
  | c :: cs, w, xs, j, h => by
    obtain ⟨h1, h2⟩ := own_setCells cs _ _ (j + 1) (h.stored j c).1
    exact ⟨h1, fun B hg hB => ((Below.refl B w).setCell (p := ⟨g, j, none⟩) hg c).trans (h2 B hg (by simpa using hB))⟩
theorem heap_setCells {g k : Nat} (hk : k ≠ g) : ∀ (cs : List Value) (w : World) (j : Nat), (setCells w g j cs).heap[k]? = w.heap[k]?
  | [], _, _ => rfl
  | c :: cs, w, j => by rw [setCells, heap_setCells hk cs]; exact Below.heap_setCell _ _ _ _ hk
theorem size_setCells {g : Nat} : ∀ (cs : List Value) (w : World) (j : Nat), (setCells w g j cs).heap.size = w.heap.size
  | [], _, _ => rfl
  | c :: cs, w, j => by rw [setCells, size_setCells cs]; simp
theorem ownsRow_ext {w w' : World} {base : Nat} {e : TypeId} {size : Nat} {v : Value} {n : Nat} {xs : List Value} (h : w.ownsRow base e size v n xs) (x : Ext w w') : w'.ownsRow base e size v n xs := by
  obtain ⟨h1, h2⟩ := h
  refine ⟨h1, ?_⟩
  rcases h2 with h2 | ⟨g, cap, cur, hv, hg, hh, r⟩
  · exact Or.inl h2
  · exact Or.inr ⟨g, cap, cur, hv, hg, by rw [x.heap (Array.getElem?_eq_some_iff.1 hh).1]; exact hh, r⟩
theorem Ext.setCell {a b : World} (h : Ext a b) {p : Addr} (hp : a.heap.size ≤ p.block) (u : Value) : Ext a (b.setCell p u) := Below.setCell h hp u
theorem Ext.setCells {a : World} {g : Nat} (hp : a.heap.size ≤ g) : ∀ (cs : List Value) {b : World} (j : Nat), Ext a b → Ext a (setCells b g j cs)
  | [], _, _, h => h
  | _ :: cs, _, j, h => Ext.setCells hp cs (j + 1) (Ext.setCell h (p := ⟨g, j, none⟩) hp _)
theorem Ext.later {a b c : World} (h : Ext a b) (k : Ext b c) : Ext a c := h.trans k

/-- A row of k elements, one more stored behind it: for 'out[k] = f(a[k])'. -/
theorem Row.store {α : Type} [Inhabited α] {T : Ty α} {w : World} {l : List α} {bss : List (List Nat)} {xs cs : List Value} {k g : Nat} {bs : List Nat} (hk : k < l.length) (hx : xs.length = l.length * T.n)
    (hr : Row T w (l.take k) bss (xs.take (k * T.n))) (hc : T.rep w (nth l k) bs cs) (hg : g ∉ bss.flatten) (hg' : g ∉ bs) :
    Row T (setCells w g (k * T.n) cs) (l.take (k + 1)) (bss ++ [bs]) ((setRow xs (k * T.n) cs).take ((k + 1) * T.n)) := by
  have hl := T.len hc
  have hm := mul_lt_of (m := T.n) hk
  rw [take_nth hk, show (k + 1) * T.n = k * T.n + cs.length by rw [Nat.add_mul]; omega, take_setRow _ _ _ (by omega)]
  refine Row.snoc (hr.keep fun j hj => heap_setCells (fun e => hg (by rw [← e]; exact hj)) _ _ _) (T.keep (fun j hj => heap_setCells (fun e => hg' (by rw [← e]; exact hj)) _ _ _) hc)

/-- A list of ints as cells. -/
theorem row_ints (w : World) (l : List Int) (h : ∀ x ∈ l, Int64 x) : Row tInt w l (l.map fun _ => []) (l.map (Value.int .i64)) := by
  refine ⟨by simp [tInt], by simp, fun i hi => ⟨by simp [nth, hi], ?_, h _ (nth_mem hi)⟩⟩
  simp only [tInt, Nat.mul_one]
  rw [← List.map_drop, drop_nth hi]; simp
theorem row_strs (w : World) (l : List ByteArray) (h : ∀ x ∈ l, x.size ≤ 9223372036854775807) : Row tStr w l (l.map fun _ => []) (l.map Value.string) := by
  refine ⟨by simp [tStr], by simp, fun i hi => ⟨by simp [nth, hi], ?_, h _ (nth_mem hi)⟩⟩
  simp only [tStr, Nat.mul_one]
  rw [← List.map_drop, drop_nth hi]; simp
theorem flat_nil {α : Type} (l : List α) : (l.map fun _ => ([] : List Nat)).flatten = [] := by induction l <;> simp_all

/-- A world that came later, as one variable: for a region that draws its order. -/
structure Later (w : World) where
  wd : World
  ext : Ext w wd

instance (w : World) : Inhabited (Later w) := ⟨⟨w, Ext.refl w⟩⟩

theorem wp_region_later {P : Program} {id : Nat} {Q : Exit → Act → World → Prop} {a : Act} {w : World} {l : List Oper} (hm : P.follows .mixedOrders = true) (hB : Region.lexB .any l.toArray = true)
    (h : wpQuiet P l.toArray (fun w' => ∃ y : Later w, w' = y.wd) (fun a' => ∀ w', (∃ y : Later w, w' = y.wd) → Q .normal a' w') l a) : (Code.region id l.toArray true).wp P Q a w :=
  wp_region_quiet (C := fun w' => ∃ y : Later w, w' = y.wd) hm hB ⟨⟨_, (Ext.refl w).drewN 1⟩, rfl⟩ (by simpa using h)

theorem calls_later {P : Program} {f : FuncId} {args : Array Value} {w : World} {y : Later w} {v : Value} (h : Calls P f args y.wd fun e w' => e = .returned v ∧ Ext y.wd w') :
    Calls P f args y.wd fun e w'' => e = .returned v ∧ ∃ z : Later w, w'' = z.wd :=
  h.mono fun _ w' ⟨he, hx⟩ => ⟨he, ⟨w', y.ext.trans hx⟩, rfl⟩
theorem Later.cell {w : World} {b o : Nat} {v : Value} (h : w.cell? ⟨b, o, none⟩ = some v) : ∀ y : Later w, y.wd.cell? ⟨b, o, none⟩ = some v := fun y => by rw [y.ext.cell (lt_of_cell h)]; exact h
end Go.Proofs.YtcpjhpjlcgcigaaGreatDoor
