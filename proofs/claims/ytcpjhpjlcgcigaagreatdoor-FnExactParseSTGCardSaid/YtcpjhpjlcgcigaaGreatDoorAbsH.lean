/- Symbolic states: what slots and memory of a call hold, said by plain data; and that what is not touched stays. No condition. Symbolic states: a slot written, memory made, memory written. No condition. Symbolic states: what an operation that only reckons or reads yields. No condition. Symbolic states: what an operation that only reckons or reads yields, operation by operation. No condition. Symbolic states: what an operation that only reckons or reads yields, all of them in one function. No condition. Symbolic states: what an operation that only reckons or reads yields is so. No condition. Symbolic states: judgements of code, of operations, of functions, and their rules. No condition. Symbolic states: functions by what they hand back; calls; new variables; states that tell less. No condition. -/
import Derived.Test.YtcpjhpjlcgcigaaGreatDoorLibb
import Derived.Laws.Tables
import Derived.DataBytes
set_option linter.unusedSimpArgs false
set_option linter.unusedVariables false
namespace Go.Proofs.YtcpjhpjlcgcigaaGreatDoor
open Go.ChangeShapes Go.WideShapes Go.ChangeAt Go.RowKit

/-- What is known of a value: nothing; a scalar; the nil slice; a slice that is read alone (cells an element, the elements); the slice of an entry; a slice over a variable's cells; an address in an entry; the same by element and cell; an address of cells that are read alone; a struct; a tuple; a function; a value that an older world holds in blocks that stay; a value that is known exactly. -/
inductive D where
  | no
  | lit (v : Value)
  | nil
  | sh (n : Nat) (xs : List (List D))
  | own (i : Nat)
  | vec (i len : Nat)
  | ptr (i o : Nat)
  | eptr (i n : Nat) (k : Int) (o : Nat)
  | part (i m lo hi : Nat)
  | sptr (ds : List D)
  | agg (ds : List D)
  | tup (ds : List D)
  | fn (f : FuncId) (ds : List D)
  | old (w : World) (A : Nat → Prop) (d : D)
  | val (v : Value)
  | tag (v : Value) (d : D)
  | pin (b i o : Nat)
instance : Inhabited D := ⟨.no⟩

/-- Memory of the call's own: given away; a variable; an array (element type, cells an element, the elements, whether all behind them is the call's own too); a slice of which all is the call's own, as it came from a call; whatever else, said by a statement on its blocks. -/
inductive Blk where
  | gone
  | cells (t : TypeId) (ds : List D)
  | arr (t : TypeId) (n : Nat) (xs : List (List D)) (deep : Bool)
  | fr (n : Nat) (xs : List (List D))
  | cust (R : World → Value → Option Nat → List Nat → Prop)

def litOk : Value → Prop
  | .int k n => k.wrap n = n
  | .bool _ => True
  | .string s => s.size ≤ 9223372036854775807
  | .slice _ _ _ => True
  | _ => False

mutual
inductive VR (w : World) : D → Value → List Nat → Prop
  | lit {v : Value} : litOk v → VR w (.lit v) v []
  | nil : VR w .nil (.slice none 0 0) []
  | shnil {n : Nat} {a : Option Addr} {cap : Nat} : cap ≤ 9223372036854775807 → (a = none → cap = 0) → VR w (.sh n []) (.slice a 0 cap) []
  | sh {n : Nat} {xs : List (List D)} {b o cap : Nat} {us : List Value} {bs : List Nat} : (∀ r ∈ xs, r.length = n) → xs.length ≤ cap → cap ≤ 9223372036854775807 → b < w.heap.size → VRs w xs.flatten us bs →
      (∀ j, j < us.length → w.cell? ⟨b, o + j, none⟩ = us[j]?) → VR w (.sh n xs) (.slice (some ⟨b, o, none⟩) xs.length cap) (b :: bs)
  | tag {d : D} {u : Value} {bs : List Nat} : VR w d u bs → VR w (.tag u d) u bs
inductive VRs (w : World) : List D → List Value → List Nat → Prop
  | nil : VRs w [] [] []
  | cons {d : D} {u : Value} {bs : List Nat} {ds : List D} {us : List Value} {bs' : List Nat} : VR w d u bs → VRs w ds us bs' → VRs w (d :: ds) (u :: us) (bs ++ bs')
end

mutual
theorem VR.inb {w : World} : ∀ {d : D} {u : Value} {bs : List Nat}, VR w d u bs → ∀ k ∈ bs, k < w.heap.size
  | _, _, _, .lit _ => by simp
  | _, _, _, .nil => by simp
  | _, _, _, .shnil _ _ => by simp
  | _, _, _, .tag h => VR.inb h
  | _, _, _, .sh _ _ _ hb h _ => by
    intro k hk
    rcases List.mem_cons.1 hk with rfl | hk
    · exact hb
    · exact VRs.inb h k hk
theorem VRs.inb {w : World} : ∀ {ds : List D} {us : List Value} {bs : List Nat}, VRs w ds us bs → ∀ k ∈ bs, k < w.heap.size
  | _, _, _, .nil => by simp
  | _, _, _, .cons h h' => by
    intro k hk
    rcases List.mem_append.1 hk with hk | hk
    · exact VR.inb h k hk
    · exact VRs.inb h' k hk
end

mutual
theorem VR.keep {w w' : World} : ∀ {d : D} {u : Value} {bs : List Nat}, VR w d u bs → (∀ k ∈ bs, w'.heap[k]? = w.heap[k]?) → VR w' d u bs
  | _, _, _, .lit h, _ => .lit h
  | _, _, _, .nil, _ => .nil
  | _, _, _, .shnil h h', _ => .shnil h h'
  | _, _, _, .tag h, hk => .tag (VR.keep h hk)
  | _, _, _, .sh h1 h2 h3 hb h hc, hk => by
    have e := hk _ (List.mem_cons_self ..)
    refine .sh h1 h2 h3 ?_ (VRs.keep h fun k m => hk k (List.mem_cons_of_mem _ m)) (fun j hj => by rw [cell_of_heap e]; exact hc j hj)
    exact (Array.getElem?_eq_some_iff.1 (e.trans (Array.getElem?_eq_getElem hb))).1
theorem VRs.keep {w w' : World} : ∀ {ds : List D} {us : List Value} {bs : List Nat}, VRs w ds us bs → (∀ k ∈ bs, w'.heap[k]? = w.heap[k]?) → VRs w' ds us bs
  | _, _, _, .nil, _ => .nil
  | _, _, _, .cons h h', hk => .cons (VR.keep h fun k m => hk k (List.mem_append_left _ m)) (VRs.keep h' fun k m => hk k (List.mem_append_right _ m))
end

theorem VR.one {w : World} : ∀ {d : D} {u : Value} {bs : List Nat}, VR w d u bs → u.oneCell' = true
  | _, u, _, .lit h => by cases u <;> first | rfl | exact h.elim
  | _, _, _, .nil => rfl
  | _, _, _, .shnil _ _ => rfl
  | _, _, _, .sh _ _ _ _ _ _ => rfl
  | _, _, _, .tag h => VR.one h
theorem VRs.len {w : World} : ∀ {ds : List D} {us : List Value} {bs : List Nat}, VRs w ds us bs → us.length = ds.length
  | _, _, _, .nil => rfl
  | _, _, _, .cons _ h' => by simp [VRs.len h']

theorem VRs.append {w : World} : ∀ {ds : List D} {us : List Value} {bs : List Nat} {ds' : List D} {us' : List Value} {bs' : List Nat}, VRs w ds us bs → VRs w ds' us' bs' → VRs w (ds ++ ds') (us ++ us') (bs ++ bs')
  | _, _, _, _, _, _, .nil, h' => h'
  | _, _, _, _, _, _, .cons h h1, h' => by rw [List.append_assoc]; exact .cons h (VRs.append h1 h')

/-- A part of a row of cells. -/
theorem VRs.part {w : World} : ∀ {ds : List D} {us : List Value} {bs : List Nat} (i n : Nat), VRs w ds us bs → ∃ bs', VRs w ((ds.drop i).take n) ((us.drop i).take n) bs' ∧ ∀ k ∈ bs', k ∈ bs
  | _, _, _, _, _, .nil => ⟨[], by simp; exact .nil, by simp⟩
  | _, _, _, 0, 0, .cons _ _ => ⟨[], by simp; exact .nil, by simp⟩
  | _, _, _, 0, n + 1, .cons h h' => by
    obtain ⟨bs', h1, h2⟩ := VRs.part 0 n h'
    refine ⟨_, .cons h (by simpa using h1), fun k hk => ?_⟩
    rcases List.mem_append.1 hk with hk | hk
    · exact List.mem_append_left _ hk
    · exact List.mem_append_right _ (h2 k hk)
  | _, _, _, i + 1, n, .cons _ h' => by
    obtain ⟨bs', h1, h2⟩ := VRs.part i n h'
    exact ⟨bs', by simpa using h1, fun k hk => List.mem_append_right _ (h2 k hk)⟩

theorem VRs.get {w : World} {ds : List D} {us : List Value} {bs : List Nat} (h : VRs w ds us bs) {i : Nat} {d : D} (hd : ds[i]? = some d) : ∃ u bs', us[i]? = some u ∧ VR w d u bs' ∧ ∀ k ∈ bs', k ∈ bs := by
  obtain ⟨bs', h1, h2⟩ := h.part i 1
  have hi : i < ds.length := (List.getElem?_eq_some_iff.1 hd).1
  have hu : i < us.length := by rw [h.len]; exact hi
  have e1 : (ds.drop i).take 1 = [d] := by rw [List.drop_eq_getElem_cons hi]; simp [(List.getElem?_eq_some_iff.1 hd).2]
  have e2 : (us.drop i).take 1 = [us[i]] := by rw [List.drop_eq_getElem_cons hu, List.take_succ_cons, List.take_zero]
  rw [e1, e2] at h1
  cases h1 with
  | cons h3 h4 => cases h4; exact ⟨us[i], _, by simp [hu], h3, fun k hk => h2 k (by simpa using hk)⟩

/-- An entry's place: its value, the block of its own cells, the blocks behind its elements that are the call's own. -/
structure Ent where
  v : Value
  top : Option Nat
  nest : List Nat

mutual
inductive VX (ms : List Ent) (w : World) (Ok : Nat → Prop) : D → Value → Prop
  | no {u : Value} : VX ms w Ok .no u
  | rd {d : D} {u : Value} {bs : List Nat} : VR w d u bs → (∀ k ∈ bs, Ok k) → VX ms w Ok d u
  | own {i : Nat} {e : Ent} : ms[i]? = some e → (∃ a n c, e.v = .slice a n c) → VX ms w Ok (.own i) e.v
  | vec {i len b : Nat} {e : Ent} : ms[i]? = some e → e.top = some b → VX ms w Ok (.vec i len) (.slice (some ⟨b, 0, none⟩) len len)
  | ptr {i o b : Nat} {e : Ent} : ms[i]? = some e → e.top = some b → VX ms w Ok (.ptr i o) (.pointer (some ⟨b, o, none⟩))
  | pin {b i o : Nat} {e : Ent} : ms[i]? = some e → e.top = some b → VX ms w Ok (.pin b i o) (.pointer (some ⟨b, o, none⟩))
  | eptr {i o b n : Nat} {k : Int} {e : Ent} : ms[i]? = some e → e.top = some b → VX ms w Ok (.eptr i n k o) (.pointer (some ⟨b, k.toNat * n + o, none⟩))
  | part {i m lo hi : Nat} {e : Ent} {av : Option Addr} {n c : Nat} : ms[i]? = some e → e.v = .slice av n c → (lo ≤ hi ∧ hi ≤ n) → VX ms w Ok (.part i m lo hi) (.slice (if c = lo then av else av.map (·.add (lo * m))) (hi - lo) (c - lo))
  | sptr {ds : List D} {us : List Value} {b o : Nat} {bs : List Nat} : VRs w ds us bs → Ok b → (∀ k ∈ bs, Ok k) → (∀ j, j < us.length → w.cell? ⟨b, o + j, none⟩ = us[j]?) → VX ms w Ok (.sptr ds) (.pointer (some ⟨b, o, none⟩))
  | agg {ds : List D} {us : List Value} : VXs ms w Ok ds us → VX ms w Ok (.agg ds) (.agg us.toArray)
  | tup {ds : List D} {us : List Value} : VXs ms w Ok ds us → VX ms w Ok (.tup ds) (.tuple us.toArray)
  | fn {f : FuncId} {ds : List D} {us : List Value} : VXs ms w Ok ds us → VX ms w Ok (.fn f ds) (.func (.func f) #[] us.toArray)
  | old {wo : World} {A : Nat → Prop} {d : D} {u : Value} {bs : List Nat} : VR wo d u bs → (∀ k ∈ bs, A k) → VX ms w Ok (.old wo A d) u
  | val {u : Value} : VX ms w Ok (.val u) u
inductive VXs (ms : List Ent) (w : World) (Ok : Nat → Prop) : List D → List Value → Prop
  | nil : VXs ms w Ok [] []
  | cons {d : D} {u : Value} {ds : List D} {us : List Value} : VX ms w Ok d u → VXs ms w Ok ds us → VXs ms w Ok (d :: ds) (u :: us)
end

mutual
def D.uses (i : Nat) : D → Bool
  | .own j => j == i
  | .vec j _ => j == i
  | .ptr j _ => j == i
  | .pin _ j _ => j == i
  | .eptr j _ _ _ => j == i
  | .part j _ _ _ => j == i
  | .agg ds => D.usesL i ds
  | .tup ds => D.usesL i ds
  | .fn _ ds => D.usesL i ds
  | _ => false
def D.usesL (i : Nat) : List D → Bool
  | [] => false
  | d :: ds => d.uses i || D.usesL i ds
end

mutual
/-- What stays: the entries that are named, and the cells that may be read. -/
theorem VX.mono {ms ms' : List Ent} {w w' : World} {Ok Ok' : Nat → Prop} (hk : ∀ k, Ok k → w'.heap[k]? = w.heap[k]? ∧ Ok' k) : ∀ {d : D} {u : Value}, VX ms w Ok d u → (∀ (i : Nat) (e : Ent), d.uses i = true → ms[i]? = some e → ms'[i]? = some e) → VX ms' w' Ok' d u
  | _, _, .no, _ => .no
  | _, _, .rd h h', _ => .rd (h.keep fun k m => (hk k (h' k m)).1) fun k m => (hk k (h' k m)).2
  | _, _, .own h h', hm => .own (hm _ _ (by simp [D.uses]) h) h'
  | _, _, .vec h h', hm => .vec (hm _ _ (by simp [D.uses]) h) h'
  | _, _, .ptr h h', hm => .ptr (hm _ _ (by simp [D.uses]) h) h'
  | _, _, .pin h h', hm => .pin (hm _ _ (by simp [D.uses]) h) h'
  | _, _, .eptr h h', hm => .eptr (hm _ _ (by simp [D.uses]) h) h'
  | _, _, .part h h' h2, hm => .part (hm _ _ (by simp [D.uses]) h) h' h2
  | _, _, .sptr h h1 h2 h3, _ => .sptr (h.keep fun k m => (hk k (h2 k m)).1) (hk _ h1).2 (fun k m => (hk k (h2 k m)).2) fun j hj => by rw [cell_of_heap (hk _ h1).1]; exact h3 j hj
  | _, _, .agg h, hm => .agg (VXs.mono hk h fun i e hu => hm i e (by simpa [D.uses] using hu))
  | _, _, .tup h, hm => .tup (VXs.mono hk h fun i e hu => hm i e (by simpa [D.uses] using hu))
  | _, _, .fn h, hm => .fn (VXs.mono hk h fun i e hu => hm i e (by simpa [D.uses] using hu))
  | _, _, .old h h', _ => .old h h'
  | _, _, .val, _ => .val
theorem VXs.mono {ms ms' : List Ent} {w w' : World} {Ok Ok' : Nat → Prop} (hk : ∀ k, Ok k → w'.heap[k]? = w.heap[k]? ∧ Ok' k) : ∀ {ds : List D} {us : List Value}, VXs ms w Ok ds us → (∀ (i : Nat) (e : Ent), D.usesL i ds = true → ms[i]? = some e → ms'[i]? = some e) → VXs ms' w' Ok' ds us
  | _, _, .nil, _ => .nil
  | _, _, .cons h h', hm => .cons (VX.mono hk h fun i e hu => hm i e (by simp [D.usesL, hu])) (VXs.mono hk h' fun i e hu => hm i e (by simp [D.usesL, hu]))
end

theorem VXs.len {ms : List Ent} {w : World} {Ok : Nat → Prop} : ∀ {ds : List D} {us : List Value}, VXs ms w Ok ds us → us.length = ds.length
  | _, _, .nil => rfl
  | _, _, .cons _ h => by simp [VXs.len h]
theorem VXs.get {ms : List Ent} {w : World} {Ok : Nat → Prop} : ∀ {ds : List D} {us : List Value}, VXs ms w Ok ds us → ∀ {i : Nat} {d : D}, ds[i]? = some d → ∃ u, us[i]? = some u ∧ VX ms w Ok d u
  | _, _, .nil, _, _, h => by simp at h
  | _, _, .cons h _, 0, _, hd => by simp at hd; subst hd; exact ⟨_, by simp, h⟩
  | _, _, .cons _ h, i + 1, _, hd => by simp at hd; obtain ⟨u, h1, h2⟩ := VXs.get h hd; exact ⟨u, by simpa using h1, h2⟩
theorem VXs.append {ms : List Ent} {w : World} {Ok : Nat → Prop} : ∀ {ds : List D} {us : List Value} {ds' : List D} {us' : List Value}, VXs ms w Ok ds us → VXs ms w Ok ds' us' → VXs ms w Ok (ds ++ ds') (us ++ us')
  | _, _, _, _, .nil, h' => h'
  | _, _, _, _, .cons h h1, h' => .cons h (VXs.append h1 h')
theorem VXs.take {ms : List Ent} {w : World} {Ok : Nat → Prop} : ∀ {ds : List D} {us : List Value}, VXs ms w Ok ds us → ∀ n, VXs ms w Ok (ds.take n) (us.take n)
  | _, _, .nil, _ => by simp; exact .nil
  | _, _, .cons _ _, 0 => .nil
  | _, _, .cons h h', n + 1 => .cons h (VXs.take h' n)
theorem VXs.drop {ms : List Ent} {w : World} {Ok : Nat → Prop} : ∀ {ds : List D} {us : List Value}, VXs ms w Ok ds us → ∀ n, VXs ms w Ok (ds.drop n) (us.drop n)
  | _, _, .nil, _ => by simp; exact .nil
  | _, _, h@(.cons _ _), 0 => h
  | _, _, .cons _ h', n + 1 => VXs.drop h' n
theorem VXs.set {ms : List Ent} {w : World} {Ok : Nat → Prop} : ∀ {ds : List D} {us : List Value}, VXs ms w Ok ds us → ∀ (n : Nat) {d : D} {u : Value}, VX ms w Ok d u → VXs ms w Ok (ds.set n d) (us.set n u)
  | _, _, .nil, _, _, _, _ => .nil
  | _, _, .cons _ h', 0, _, _, hd => .cons hd h'
  | _, _, .cons h h', n + 1, _, _, hd => .cons h (VXs.set h' n hd)
theorem VXs.of_rd {ms : List Ent} {w : World} {Ok : Nat → Prop} : ∀ {ds : List D} {us : List Value} {bs : List Nat}, VRs w ds us bs → (∀ k ∈ bs, Ok k) → VXs ms w Ok ds us
  | _, _, _, .nil, _ => .nil
  | _, _, _, .cons h h', hk => .cons (.rd h fun k m => hk k (List.mem_append_left _ m)) (VXs.of_rd h' fun k m => hk k (List.mem_append_right _ m))

def tops (ms : List Ent) : List Nat := ms.filterMap Ent.top
def owned (ms : List Ent) : List Nat := ms.flatMap fun e => e.top.toList ++ e.nest

/-- Which blocks may be read and stay as they are: older ones that the caller vouches for (A), or younger ones, but no block that the call writes. -/
def OkB (base : Nat) (A : Nat → Prop) (ms : List Ent) (w : World) (k : Nat) : Prop := k < w.heap.size ∧ (base ≤ k ∨ A k) ∧ k ∉ tops ms

def EntR (base : Nat) (ms : List Ent) (w : World) (Ok : Nat → Prop) : Blk → Ent → Prop
  | .gone, e => e.top = none ∧ e.nest = []
  | .cells t ds, e => ∃ b us, e = ⟨.pointer (some ⟨b, 0, none⟩), some b, []⟩ ∧ w.heap[b]? = some (.cells us.toArray t (0, 0)) ∧ VXs ms w Ok ds us
  | .arr t n xs deep, e => ∃ us bs, w.ownsRow base t n e.v xs.length us ∧ (∀ r ∈ xs, r.length = n) ∧ VRs w xs.flatten us bs ∧ e.top = e.v.ownBlock ∧
      (if deep then e.nest = bs ∧ ∀ k ∈ bs, Un w k else e.nest = [] ∧ ∀ k ∈ bs, Ok k)
  | .fr n xs, e => e.top = none ∧ VR w (.sh n xs) e.v e.nest ∧ ∀ k ∈ e.nest, Un w k
  | .cust R, e => R w e.v e.top e.nest ∧ ∀ w' : World, (∀ k ∈ e.top.toList ++ e.nest, w'.heap[k]? = w.heap[k]?) → R w' e.v e.top e.nest

/-- A state of the walk: how many slots, what is known of them (the youngest first), the memory. -/
structure St where
  n : Nat
  slots : List (Nat × D)
  heap : List Blk

def look : List (Nat × D) → Nat → D
  | [], _ => .no
  | (t, d) :: l, x => if x = t then d else look l x
def St.get (s : St) (t : Nat) : D := look s.slots t

/-- The state s tells of the frame and the world (w0: the world at the call; A: what the caller vouches for). -/
structure Rel (w0 : World) (A : Nat → Prop) (ms : List Ent) (s : St) (a : Act) (w : World) : Prop where
  ext : Ext w0 w
  old : ∀ k, A k → k < w0.heap.size
  size : a.tmps.size = s.n
  defers : a.defers = []
  len : ms.length = s.heap.length
  nodup : (owned ms).Nodup
  range : ∀ k ∈ owned ms, w0.heap.size ≤ k ∧ k < w.heap.size
  ents : ∀ (i : Nat) (b : Blk) (e : Ent), s.heap[i]? = some b → ms[i]? = some e → EntR w0.heap.size ms w (OkB w0.heap.size A ms w) b e
  slots : ∀ t, VX ms w (OkB w0.heap.size A ms w) (s.get t) (a.tmps.getD t undef)
end Go.Proofs.YtcpjhpjlcgcigaaGreatDoor
namespace Go.Proofs.YtcpjhpjlcgcigaaGreatDoor
open Go.ChangeShapes Go.WideShapes Go.ChangeAt Go.RowKit

def St.put (s : St) (t : Option Tmp) (d : D) : St := match t with | some x => ⟨s.n, (x, d) :: s.slots, s.heap⟩ | none => s

section
variable {w0 w w' : World} {A : Nat → Prop} {ms : List Ent} {s : St} {a : Act}

theorem Rel.put (h : Rel w0 A ms s a w) {t : Option Tmp} {d : D} {v : Value} (hv : VX ms w (OkB w0.heap.size A ms w) d v) (ht : t.all (· < s.n) = true) : Rel w0 A ms (s.put t d) (a.put t v) w := by
  cases t with
  | none => exact h
  | some x =>
    have hx : x < a.tmps.size := by rw [h.size]; simpa using ht
    refine ⟨h.ext, h.old, by simp [Act.put, St.put, h.size], h.defers, h.len, h.nodup, h.range, h.ents, fun y => ?_⟩
    simp only [Act.put, St.put, St.get, look]
    by_cases e : y = x
    · subst e
      rw [if_pos rfl]
      simp only [Array.getD_eq_getD_getElem?]
      rw [Array.getElem?_setIfInBounds_self_of_lt hx]; exact hv
    · rw [if_neg e]
      simp only [Array.getD_eq_getD_getElem?]
      rw [Array.getElem?_setIfInBounds_ne (Ne.symm e)]
      simpa [Array.getD_eq_getD_getElem?, St.get] using h.slots y

def Blk.uses (i : Nat) : Blk → Bool
  | .cells _ ds => D.usesL i ds
  | _ => false

theorem ownsRow_keep {base : Nat} {e : TypeId} {size : Nat} {v : Value} {n : Nat} {xs : List Value} (h : w.ownsRow base e size v n xs) (hk : ∀ k, v.ownBlock = some k → w'.heap[k]? = w.heap[k]?) : w'.ownsRow base e size v n xs := by
  obtain ⟨h1, h2⟩ := h
  refine ⟨h1, ?_⟩
  rcases h2 with h2 | ⟨g, cap, cur, rfl, hg, hh, r⟩
  · exact Or.inl h2
  · exact Or.inr ⟨g, cap, cur, rfl, hg, by rw [hk g rfl]; exact hh, r⟩

theorem EntR.mono {base : Nat} {ms' : List Ent} {Ok Ok' : Nat → Prop} {b : Blk} {e : Ent} (h : EntR base ms w Ok b e) (hk : ∀ k, Ok k → w'.heap[k]? = w.heap[k]? ∧ Ok' k) (ht : ∀ k, e.top = some k → w'.heap[k]? = w.heap[k]?)
    (hn : ∀ k ∈ e.nest, w'.heap[k]? = w.heap[k]?) (hm : ∀ (i : Nat) (e : Ent), b.uses i = true → ms[i]? = some e → ms'[i]? = some e) : EntR base ms' w' Ok' b e := by
  cases b with
  | gone => exact h
  | cust R =>
    have hh : ∀ k ∈ e.top.toList ++ e.nest, w'.heap[k]? = w.heap[k]? := by
      intro k hk'
      rcases List.mem_append.1 hk' with h1 | h1
      · exact ht k (by simpa using h1)
      · exact hn k h1
    exact ⟨h.2 w' hh, fun w2 h2 => h.2 w2 fun k hk' => (h2 k hk').trans (hh k hk')⟩
  | fr n xs => exact ⟨h.1, h.2.1.keep hn, fun k hk' => (h.2.2 k hk').keep (hn k hk')⟩
  | cells t ds =>
    obtain ⟨b, us, rfl, h2, h3⟩ := h
    exact ⟨b, us, rfl, by rw [ht b rfl]; exact h2, VXs.mono hk h3 hm⟩
  | arr t n xs deep =>
    obtain ⟨us, bs, h1, h2, h3, h4, h5⟩ := h
    refine ⟨us, bs, ownsRow_keep h1 (by rw [← h4]; exact ht), h2, h3.keep ?_, h4, ?_⟩
    · intro k hk'
      cases deep
      · exact (hk k (h5.2 k hk')).1
      · exact hn k (by rw [h5.1]; exact hk')
    · cases deep
      · exact ⟨h5.1, fun k hk' => (hk k (h5.2 k hk')).2⟩
      · exact ⟨h5.1, fun k hk' => (h5.2 k hk').keep (hn k (by rw [h5.1]; exact hk'))⟩

theorem owned_append (es : List Ent) : owned (ms ++ es) = owned ms ++ owned es := by simp [owned]
theorem tops_append (es : List Ent) : tops (ms ++ es) = tops ms ++ tops es := by simp [tops]
theorem tops_owned {k : Nat} (h : k ∈ tops ms) : k ∈ owned ms := by
  simp only [tops, List.mem_filterMap, owned, List.mem_flatMap] at *
  obtain ⟨e, he, ht⟩ := h
  exact ⟨e, he, by simp [ht]⟩
theorem ent_owned {i : Nat} {e : Ent} {k : Nat} (h : ms[i]? = some e) (hk : k ∈ e.top.toList ++ e.nest) : k ∈ owned ms := by
  simp only [owned, List.mem_flatMap]; exact ⟨e, List.mem_of_getElem? h, hk⟩

/-- Memory is made; nothing that was there changes. -/
theorem Rel.grow (h : Rel w0 A ms s a w) (x : Ext w w') (es : List Ent) (bl : List Blk) (hl : es.length = bl.length) (hn : (owned es).Nodup) (hr : ∀ k ∈ owned es, w.heap.size ≤ k ∧ k < w'.heap.size)
    (he : ∀ (i : Nat) (b : Blk) (e : Ent), bl[i]? = some b → es[i]? = some e → EntR w0.heap.size (ms ++ es) w' (OkB w0.heap.size A (ms ++ es) w') b e) : Rel w0 A (ms ++ es) ⟨s.n, s.slots, s.heap ++ bl⟩ a w' := by
  have hb := h.ext.size
  have hk : ∀ k, OkB w0.heap.size A ms w k → w'.heap[k]? = w.heap[k]? ∧ OkB w0.heap.size A (ms ++ es) w' k := by
    intro k ⟨h1, h2, h3⟩
    refine ⟨x.heap h1, Nat.lt_of_lt_of_le h1 x.size, h2, ?_⟩
    rw [tops_append, List.mem_append]
    rintro (h4 | h4)
    · exact h3 h4
    · have := hr k (tops_owned h4); omega
  have hm : ∀ (i : Nat) (e : Ent), ms[i]? = some e → (ms ++ es)[i]? = some e := by
    intro i e hi
    rw [List.getElem?_append_left (List.getElem?_eq_some_iff.1 hi).1]; exact hi
  refine ⟨h.ext.trans x, h.old, h.size, h.defers, by simp [h.len, hl], ?_, ?_, ?_, fun t => VX.mono hk (h.slots t) fun i e _ hi => hm i e hi⟩
  · rw [owned_append]
    refine List.nodup_append.2 ⟨h.nodup, hn, fun p hp q hq e => ?_⟩
    subst e
    have := h.range p hp; have := hr p hq; omega
  · intro k hk'
    rw [owned_append, List.mem_append] at hk'
    rcases hk' with hk' | hk'
    · exact ⟨(h.range k hk').1, Nat.lt_of_lt_of_le (h.range k hk').2 x.size⟩
    · exact ⟨by have := (hr k hk').1; omega, (hr k hk').2⟩
  · intro i b e hi hei
    by_cases hlt : i < s.heap.length
    · simp only [List.getElem?_append_left hlt] at hi
      rw [List.getElem?_append_left (by rw [h.len]; exact hlt)] at hei
      exact (h.ents i b e hi hei).mono hk (fun k hk' => x.heap (h.range k (ent_owned hei (by simp [hk']))).2) (fun k hk' => x.heap (h.range k (ent_owned hei (List.mem_append_right _ hk'))).2) (fun j e _ hj => hm j e hj)
    · simp only [List.getElem?_append_right (Nat.le_of_not_lt hlt)] at hi
      rw [List.getElem?_append_right (by rw [h.len]; omega), h.len] at hei
      exact he _ b e hi hei

theorem Rel.later (h : Rel w0 A ms s a w) (x : Ext w w') : Rel w0 A ms s a w' := by
  have := h.grow x [] [] rfl (by simp [owned]) (by simp [owned]) (by simp)
  simpa using this

/-- A new variable. -/
theorem Rel.box (h : Rel w0 A ms s a w) {t : TypeId} {ds : List D} {us : List Value} (hv : VXs ms w (OkB w0.heap.size A ms w) ds us) :
    Rel w0 A (ms ++ [⟨.pointer (some ⟨w.heap.size, 0, none⟩), some w.heap.size, []⟩]) ⟨s.n, s.slots, s.heap ++ [.cells t ds]⟩ a (w.alloc (.cells us.toArray t (0, 0))) := by
  have hx : Ext w (w.alloc (.cells us.toArray t (0, 0))) := (Ext.refl w).alloc _
  refine h.grow hx _ _ rfl (by simp [owned]) (by simp [owned]) ?_
  intro i b e hi hei
  cases i with
  | succ i => simp at hi
  | zero =>
    simp at hi hei
    subst hi; subst hei
    refine ⟨_, us, rfl, heap_alloc_new w _, VXs.mono ?_ hv ?_⟩
    · intro k ⟨h1, h2, h3⟩
      refine ⟨hx.heap h1, Nat.lt_of_lt_of_le h1 hx.size, h2, ?_⟩
      rw [tops_append, List.mem_append]
      rintro (h4 | h4)
      · exact h3 h4
      · simp [tops] at h4; omega
    · intro i e _ hi
      rw [List.getElem?_append_left (List.getElem?_eq_some_iff.1 hi).1]; exact hi

/-- A change in the block of one entry, and there alone. -/
theorem Rel.change (h : Rel w0 A ms s a w) {i g : Nat} {e : Ent} {b' : Blk} (hi : ms[i]? = some e) (ht : e.top = some g) (hg : ∀ k, k ≠ g → w'.heap[k]? = w.heap[k]?) (hz : w'.heap.size = w.heap.size) (hB : Below w0.heap.size w w')
    (hnew : (∀ k, OkB w0.heap.size A ms w k → w'.heap[k]? = w.heap[k]? ∧ OkB w0.heap.size A ms w' k) → (∀ k ∈ e.nest, w'.heap[k]? = w.heap[k]?) → EntR w0.heap.size ms w' (OkB w0.heap.size A ms w') b' e) : Rel w0 A ms ⟨s.n, s.slots, s.heap.set i b'⟩ a w' := by
  have hk : ∀ k, OkB w0.heap.size A ms w k → w'.heap[k]? = w.heap[k]? ∧ OkB w0.heap.size A ms w' k := by
    intro k ⟨h1, h2, h3⟩
    refine ⟨hg k (fun e' => h3 ?_), by rw [hz]; exact h1, h2, h3⟩
    subst e'
    simp only [tops, List.mem_filterMap]; exact ⟨e, List.mem_of_getElem? hi, ht⟩
  have hnd : ∀ j e' k, j ≠ i → ms[j]? = some e' → k ∈ e'.top.toList ++ e'.nest → k ≠ g := by
    intro j e' k hji hj hk' e2
    subst e2
    have hp := h.nodup
    unfold owned at hp
    rw [List.nodup_iff_pairwise_ne, List.pairwise_flatMap] at hp
    obtain ⟨_, hp⟩ := hp
    have hj' := (List.getElem?_eq_some_iff.1 hj); have hi' := (List.getElem?_eq_some_iff.1 hi)
    rw [List.pairwise_iff_getElem] at hp
    rcases Nat.lt_or_gt_of_ne hji with hl | hl
    · exact hp j i hj'.1 hi'.1 hl k (by rw [hj'.2]; exact hk') k (by rw [hi'.2]; simp [ht]) rfl
    · exact hp i j hi'.1 hj'.1 hl k (by rw [hi'.2]; simp [ht]) k (by rw [hj'.2]; exact hk') rfl
  have hnest : ∀ k ∈ e.nest, w'.heap[k]? = w.heap[k]? := by
    intro k hk'
    refine hg k fun e2 => ?_
    subst e2
    have hp := h.nodup
    unfold owned at hp
    rw [List.nodup_iff_pairwise_ne, List.pairwise_flatMap] at hp
    have := hp.1 e (List.mem_of_getElem? hi)
    rw [ht] at this
    simp at this
    exact this.1 k hk' rfl
  refine ⟨Below.trans h.ext hB, h.old, h.size, h.defers, by simp [h.len], h.nodup, fun k hk' => ⟨(h.range k hk').1, by rw [hz]; exact (h.range k hk').2⟩, ?_, fun t => VX.mono hk (h.slots t) fun _ _ _ h => h⟩
  intro j b e2 hj hej
  by_cases hji : j = i
  · subst hji
    have hlt : j < s.heap.length := by rw [← h.len]; exact (List.getElem?_eq_some_iff.1 hi).1
    simp only [List.getElem?_set_self hlt, Option.some.injEq] at hj
    rw [hi] at hej
    cases hej
    subst hj
    exact hnew hk hnest
  · simp only [List.getElem?_set_ne (Ne.symm hji)] at hj
    exact (h.ents j b e2 hj hej).mono hk (fun k hk' => hg k (hnd j e2 k hji hej (by simp [hk']))) (fun k hk' => hg k (hnd j e2 k hji hej (List.mem_append_right _ hk'))) (fun _ _ _ h => h)
end
end Go.Proofs.YtcpjhpjlcgcigaaGreatDoor
namespace Go.Proofs.YtcpjhpjlcgcigaaGreatDoor
open Go.ChangeShapes Go.WideShapes Go.ChangeAt Go.RowKit

/-- What is asked of a type. -/
inductive TK where
  | str | bool | int (k : IntKind) | sl (e : TypeId) | st (fs : List (Nat × Nat)) | other
structure TI where
  k : TK
  agg : Bool
  size : Nat
  bytes : Nat
  zero : List Value

def TK.of (P : Program) : TypeDesc → TK
  | .string => .str
  | .bool => .bool
  | .int k => .int k
  | .slice e => .sl e
  | .struct fs => .st (fs.toList.map fun f => (f.offset, P.cellsOf f.type))
  | _ => .other
def aggDesc : TypeDesc → Bool
  | .struct _ => true
  | .array _ _ => true
  | _ => false
def TI.of (P : Program) (t : TypeId) : Option TI :=
  match P.info? t, P.underlying t with
  | some i, some d => match i.zero with | some z => some ⟨TK.of P d, aggDesc d, i.size, i.bytes, z.cells.toList⟩ | none => none
  | _, _ => none
def TabOk (P : Program) (tab : Nat → Option TI) : Prop := ∀ t i, tab t = some i → TI.of P t = some i

theorem TI.spec {P : Program} {t : TypeId} {i : TI} (h : TI.of P t = some i) : ∃ inf d z, P.info? t = some inf ∧ P.underlying t = some d ∧ inf.zero = some z ∧ i = ⟨TK.of P d, aggDesc d, inf.size, inf.bytes, z.cells.toList⟩ := by
  unfold TI.of at h
  split at h
  · rename_i inf d h1 h2
    cases hz : inf.zero with
    | none => simp [hz] at h
    | some z => simp [hz] at h; exact ⟨inf, d, z, h1, h2, hz, h.symm⟩
  · simp at h

theorem TK.bool_inv {P : Program} {d : TypeDesc} (h : TK.bool = TK.of P d) : d = .bool := by cases d <;> first | rfl | (simp only [TK.of, reduceCtorEq] at h)
theorem TK.str_inv {P : Program} {d : TypeDesc} (h : TK.str = TK.of P d) : d = .string := by cases d <;> first | rfl | (simp only [TK.of, reduceCtorEq] at h)
theorem TK.sl_inv {P : Program} {d : TypeDesc} {e : TypeId} (h : TK.sl e = TK.of P d) : d = .slice e := by cases d <;> simp only [TK.of, reduceCtorEq, TK.sl.injEq] at h; rw [h]
theorem TK.int_inv {P : Program} {d : TypeDesc} {k : IntKind} (h : TK.int k = TK.of P d) : d = .int k := by cases d <;> simp only [TK.of, reduceCtorEq, TK.int.injEq] at h; rw [h]
theorem TK.st_inv {P : Program} {d : TypeDesc} {l : List (Nat × Nat)} (h : TK.st l = TK.of P d) : ∃ fs, d = .struct fs ∧ l = fs.toList.map fun f => (f.offset, P.cellsOf f.type) := by
  cases d <;> simp only [TK.of, reduceCtorEq, TK.st.injEq] at h
  exact ⟨_, rfl, h⟩
/-- What the table tells. -/
theorem TabOk.get {P : Program} {tab : Nat → Option TI} (hT : TabOk P tab) {t : TypeId} {k : TK} {agg : Bool} {size bytes : Nat} {zero : List Value} (h : tab t = some ⟨k, agg, size, bytes, zero⟩) :
    ∃ inf d z, P.info? t = some inf ∧ P.underlying t = some d ∧ inf.zero = some z ∧ k = TK.of P d ∧ agg = aggDesc d ∧ inf.size = size ∧ inf.bytes = bytes ∧ z.cells.toList = zero := by
  obtain ⟨inf, d, z, h1, h2, h3, h4⟩ := TI.spec (hT _ _ h)
  injection h4 with a1 a2 a3 a4 a5
  exact ⟨inf, d, z, h1, h2, h3, a1, a2, a3.symm, a4.symm, a5.symm⟩

/-- Parts of a row of which the numbers are known. -/
def dropK {α : Type} : Nat → List D → (List D → Option α) → Option α
  | 0, l, k => k l
  | n + 1, _ :: l, k => dropK n l k
  | _ + 1, [], _ => none
def takeK {α : Type} : Nat → List D → (List D → Option α) → Option α
  | 0, _, k => k []
  | n + 1, d :: l, k => takeK n l fun l' => k (d :: l')
  | _ + 1, [], _ => none
theorem dropK_eq {α : Type} : ∀ (n : Nat) (l : List D) (k : List D → Option α) {r : α}, dropK n l k = some r → k (l.drop n) = some r ∧ n ≤ l.length
  | 0, l, k, r, h => ⟨h, by simp⟩
  | n + 1, d :: l, k, r, h => by have := dropK_eq n l k h; exact ⟨by simpa using this.1, by simpa using this.2⟩
  | n + 1, [], k, r, h => by simp [dropK] at h
theorem takeK_eq {α : Type} : ∀ (n : Nat) (l : List D) (k : List D → Option α) {r : α}, takeK n l k = some r → k (l.take n) = some r ∧ n ≤ l.length
  | 0, l, k, r, h => ⟨by simp only [takeK] at h; simpa using h, by simp⟩
  | n + 1, d :: l, k, r, h => by have := takeK_eq n l _ h; exact ⟨by simpa using this.1, by simpa using this.2⟩
  | n + 1, [], k, r, h => by simp [takeK] at h

def constD : Value → D
  | .slice none 0 0 => .nil
  | .int k n => if k.wrap n = n then .lit (.int k n) else .no
  | .bool b => .lit (.bool b)
  | .string s => if s.size ≤ 9223372036854775807 then .lit (.string s) else .no
  | _ => .no
def evD (g : Nat → D) : Operand → D
  | .tmp t => g t
  | .const v => constD v
  | .func f => .fn f []
  | .global _ => .no
theorem constD_ok {ms : List Ent} {w : World} {Ok : Nat → Prop} (v : Value) : VX ms w Ok (constD v) v := by
  unfold constD
  split
  · exact .rd .nil (by simp)
  · split
    · rename_i h; exact .rd (.lit h) (by simp)
    · exact .no
  · exact .rd (.lit trivial) (by simp)
  · split
    · rename_i h; exact .rd (.lit h) (by simp)
    · exact .no
  · exact .no
theorem evD_ok {ms : List Ent} {w : World} {Ok : Nat → Prop} {g : Nat → D} {a : Act} {x : Operand} (h : ∀ t, x = .tmp t → VX ms w Ok (g t) (a.tmps.getD t undef)) : VX ms w Ok (evD g x) (a.eval x) := by
  cases x with
  | tmp t => exact h t rfl
  | const v => exact constD_ok v
  | global g => exact .no
  | func f => exact .fn (us := []) .nil

section
variable {ms : List Ent} {w : World} {Ok : Nat → Prop}
theorem VX.lit_inv {v u : Value} (h : VX ms w Ok (.lit v) u) : u = v ∧ litOk v := by
  cases h with | rd h _ => cases h with | lit h => exact ⟨rfl, h⟩
theorem VX.of_lit {v : Value} (h : litOk v) : VX ms w Ok (.lit v) v := .rd (.lit h) (by simp)
theorem VX.nil_inv {u : Value} (h : VX ms w Ok .nil u) : u = .slice none 0 0 := by
  cases h with | rd h _ => cases h; rfl
theorem VX.agg_inv {ds : List D} {u : Value} (h : VX ms w Ok (.agg ds) u) : ∃ us, u = .agg us.toArray ∧ VXs ms w Ok ds us := by
  cases h with | rd h _ => cases h | agg h => exact ⟨_, rfl, h⟩
theorem VX.tup_inv {ds : List D} {u : Value} (h : VX ms w Ok (.tup ds) u) : ∃ us, u = .tuple us.toArray ∧ VXs ms w Ok ds us := by
  cases h with | rd h _ => cases h | tup h => exact ⟨_, rfl, h⟩
theorem VX.fn_inv {f : FuncId} {ds : List D} {u : Value} (h : VX ms w Ok (.fn f ds) u) : ∃ us, u = .func (.func f) #[] us.toArray ∧ VXs ms w Ok ds us := by
  cases h with | rd h _ => cases h | fn h => exact ⟨_, rfl, h⟩
theorem VX.own_inv {i : Nat} {u : Value} (h : VX ms w Ok (.own i) u) : ∃ e, ms[i]? = some e ∧ u = e.v ∧ ∃ a n c, e.v = .slice a n c := by
  cases h with | rd h _ => cases h | own h h' => exact ⟨_, h, rfl, h'⟩
theorem VX.vec_inv {i len : Nat} {u : Value} (h : VX ms w Ok (.vec i len) u) : ∃ e b, ms[i]? = some e ∧ e.top = some b ∧ u = .slice (some ⟨b, 0, none⟩) len len := by
  cases h with | rd h _ => cases h | vec h h' => exact ⟨_, _, h, h', rfl⟩
theorem VX.pin_inv {b i o : Nat} {u : Value} (h : VX ms w Ok (.pin b i o) u) : ∃ e, ms[i]? = some e ∧ e.top = some b ∧ u = .pointer (some ⟨b, o, none⟩) := by
  cases h with
  | rd h _ => cases h
  | pin h h' => exact ⟨_, h, h', rfl⟩
theorem VX.ptr_inv {i o : Nat} {u : Value} (h : VX ms w Ok (.ptr i o) u) : ∃ e b, ms[i]? = some e ∧ e.top = some b ∧ u = .pointer (some ⟨b, o, none⟩) := by
  cases h with | rd h _ => cases h | ptr h h' => exact ⟨_, _, h, h', rfl⟩
theorem VX.eptr_inv {i n o : Nat} {k : Int} {u : Value} (h : VX ms w Ok (.eptr i n k o) u) : ∃ e b, ms[i]? = some e ∧ e.top = some b ∧ u = .pointer (some ⟨b, k.toNat * n + o, none⟩) := by
  cases h with | rd h _ => cases h | eptr h h' => exact ⟨_, _, h, h', rfl⟩
theorem VX.part_inv {i m lo hi : Nat} {u : Value} (h : VX ms w Ok (.part i m lo hi) u) : ∃ e av n c, ms[i]? = some e ∧ e.v = .slice av n c ∧ (lo ≤ hi ∧ hi ≤ n) ∧ u = .slice (if c = lo then av else av.map (·.add (lo * m))) (hi - lo) (c - lo) := by
  cases h with | rd h _ => cases h | part h h' h2 => exact ⟨_, _, _, _, h, h', h2, rfl⟩
theorem VX.sptr_inv {ds : List D} {u : Value} (h : VX ms w Ok (.sptr ds) u) : ∃ us b o bs, u = .pointer (some ⟨b, o, none⟩) ∧ VRs w ds us bs ∧ Ok b ∧ (∀ k ∈ bs, Ok k) ∧ (∀ j, j < us.length → w.cell? ⟨b, o + j, none⟩ = us[j]?) := by
  cases h with | rd h _ => cases h | sptr h h1 h2 h3 => exact ⟨_, _, _, _, rfl, h, h1, h2, h3⟩
theorem VX.sh_inv {n : Nat} {xs : List (List D)} {u : Value} (h : VX ms w Ok (.sh n xs) u) : ∃ bs, VR w (.sh n xs) u bs ∧ ∀ k ∈ bs, Ok k := by
  cases h with | rd h h' => exact ⟨_, h, h'⟩

theorem litOk_i64 {n : Int} : litOk (.int .i64 n) ↔ -9223372036854775808 ≤ n ∧ n ≤ 9223372036854775807 := by
  have e : litOk (.int .i64 n) = (IntKind.i64.wrap n = n) := rfl
  rw [e]; unfold IntKind.wrap
  simp only [IntKind.bits, IntKind.signed, Bool.true_and, ge_iff_le, decide_eq_true_eq, Int.reducePow, Nat.reduceSub]
  split <;> constructor <;> intro h <;> omega
theorem litOk_u8 {n : Int} : litOk (.int .u8 n) ↔ 0 ≤ n ∧ n ≤ 255 := by
  have e : litOk (.int .u8 n) = (IntKind.u8.wrap n = n) := rfl
  rw [e]; unfold IntKind.wrap
  simp only [IntKind.bits, IntKind.signed, Bool.false_and, Int.reducePow, Bool.false_eq_true, if_false]
  constructor <;> intro h <;> omega

/-- The cells of a variable. -/
theorem loadCellsFrom_ok {P : Program} {b o : Nat} : ∀ (us : List Value) (i : Nat) (acc : Array Value), (∀ j, j < us.length → w.cell? ⟨b, o + (i + j), none⟩ = us[j]?) → (loadCellsFrom ⟨b, o, none⟩ i us.length acc).run P w = .ok (acc ++ us.toArray) w
  | [], i, acc, _ => by simp [loadCellsFrom, go_sem]
  | u :: us, i, acc, h => by
    have h0 := h 0 (by simp)
    have e : (Addr.add ⟨b, o, none⟩ i) = ⟨b, o + (i + 0), none⟩ := by unfold Addr.add; split <;> simp_all
    have ih := loadCellsFrom_ok (P := P) us (i + 1) (acc.push u) (fun j hj => by have := h (j + 1) (by simpa using hj); rw [show i + 1 + j = i + (j + 1) by omega]; simpa using this)
    simp only [List.getElem?_cons_zero, Nat.add_zero] at h0
    have hl : (Go.load ⟨b, o + i, none⟩).run P w = .ok u w := by simp only [Go.load, Sem.run, h0]
    simp only [Nat.add_zero] at e
    simp only [List.length_cons, loadCellsFrom, Sem.run_bind, e, hl, Result.andThen, ih]
    simp
end
end Go.Proofs.YtcpjhpjlcgcigaaGreatDoor
namespace Go.Proofs.YtcpjhpjlcgcigaaGreatDoor
open Go.ChangeShapes Go.WideShapes Go.ChangeAt Go.RowKit

/-- Bits of two numbers: and, or, and-not. -/
def andI (a b : Int) : Int := IntKind.i64.wrap ((BitVec.ofInt 64 a &&& BitVec.ofInt 64 b).toNat : Int)
def orI (a b : Int) : Int := IntKind.i64.wrap ((BitVec.ofInt 64 a ||| BitVec.ofInt 64 b).toNat : Int)
def andNotI (a b : Int) : Int := IntKind.i64.wrap ((BitVec.ofInt 64 a &&& ~~~ BitVec.ofInt 64 b).toNat : Int)
/-- The sum, difference, product; comparisons of two numbers of one kind. -/
def intD (op : BinOp) (k : IntKind) (a b : Int) : Option (Prop × D) :=
  match op with
  | .add => match k with
    | .i64 => some (-9223372036854775808 ≤ a + b ∧ a + b ≤ 9223372036854775807, .lit (.int .i64 (a + b)))
    | .u8 => some (0 ≤ a + b ∧ a + b ≤ 255, .lit (.int .u8 (a + b)))
    | _ => none
  | .sub => match k with
    | .i64 => some (-9223372036854775808 ≤ a - b ∧ a - b ≤ 9223372036854775807, .lit (.int .i64 (a - b)))
    | .u8 => some (0 ≤ a - b ∧ a - b ≤ 255, .lit (.int .u8 (a - b)))
    | _ => none
  | .mul => match k with
    | .i64 => some (-9223372036854775808 ≤ a * b ∧ a * b ≤ 9223372036854775807, .lit (.int .i64 (a * b)))
    | _ => none
  | .quo => match k with
    | .i64 => some (0 ≤ a ∧ 0 < b, .lit (.int .i64 (a / b)))
    | _ => none
  | .rem => match k with
    | .i64 => some (0 ≤ a ∧ 0 < b, .lit (.int .i64 (a % b)))
    | _ => none
  | .shl => match k with
    | .i64 => some ((0 ≤ b ∧ b ≤ 63) ∧ -9223372036854775808 ≤ a * 2 ^ b.toNat ∧ a * 2 ^ b.toNat ≤ 9223372036854775807, .lit (.int .i64 (a * 2 ^ b.toNat)))
    | _ => none
  | .shr => match k with
    | .i64 => some (0 ≤ b ∧ b ≤ 63, .lit (.int .i64 (a / 2 ^ b.toNat)))
    | _ => none
  | .and => match k with
    | .i64 => some (True, .lit (.int .i64 (andI a b)))
    | _ => none
  | .or => match k with
    | .i64 => some (True, .lit (.int .i64 (orI a b)))
    | _ => none
  | .andNot => match k with
    | .i64 => some (True, .lit (.int .i64 (andNotI a b)))
    | _ => none
  | .eql => some (True, .lit (.bool (decide (a = b))))
  | .neq => some (True, .lit (.bool (!decide (a = b))))
  | .lss => some (True, .lit (.bool (decide (a < b))))
  | .leq => some (True, .lit (.bool (decide (a ≤ b))))
  | .gtr => some (True, .lit (.bool (decide (b < a))))
  | .geq => some (True, .lit (.bool (decide (b ≤ a))))
  | _ => none
def strD (op : BinOp) (a b : ByteArray) : Option (Prop × D) :=
  match op with
  | .add => some (a.size + b.size ≤ 9223372036854775807, .lit (.string (a ++ b)))
  | .eql => some (True, .lit (.bool (decide (a = b))))
  | .neq => some (True, .lit (.bool (!decide (a = b))))
  | .lss => some (True, .lit (.bool (Op.bytesLess a.toList b.toList)))
  | _ => none
def boolD (op : BinOp) (a b : Bool) : Option (Prop × D) :=
  match op with
  | .eql => some (True, .lit (.bool (a == b)))
  | .neq => some (True, .lit (.bool (!(a == b))))
  | _ => none
def kindEq : IntKind → IntKind → Bool
  | .i64, .i64 => true
  | .u8, .u8 => true
  | _, _ => false
def isBoolK : Option TI → Bool
  | some ⟨.bool, _, _, _, _⟩ => true
  | _ => false
def binD (tab : Nat → Option TI) (op : BinOp) (t : TypeId) : D → D → Option (Prop × D)
  | .lit (.int k a), .lit (.int k' b) => match kindEq k k' with | true => intD op k a b | false => none
  | .lit (.string a), .lit (.string b) => strD op a b
  | .lit (.bool a), .lit (.bool b) => match isBoolK (tab t) with | true => boolD op a b | false => none
  | _, _ => none

theorem kindEq_eq {k k' : IntKind} (h : kindEq k k' = true) : k = k' := by cases k <;> cases k' <;> first | rfl | (exact Bool.noConfusion h)
theorem bytesExt {a b : ByteArray} (h : a.toList = b.toList) : a = b := by
  rw [ByteArray.toList_eq, ByteArray.toList_eq] at h
  cases a; cases b
  simp at h; simp [h]
theorem bytes_toList_beq (a b : ByteArray) : (a.toList == b.toList) = decide (a = b) := by
  rw [Bool.eq_iff_iff, beq_iff_eq, decide_eq_true_eq]; exact ⟨bytesExt, fun e => by rw [e]⟩

section
variable {P : Program} {ms : List Ent} {w : World} {Ok : Nat → Prop}

theorem int_vx {k : IntKind} {n : Int} (h : litOk (.int k n)) : VX ms w Ok (.lit (.int k n)) (.int k n) := VX.of_lit h
theorem bool_vx {b : Bool} : VX ms w Ok (.lit (.bool b)) (.bool b) := VX.of_lit trivial

theorem wrap_i64 {n : Int} (h : -9223372036854775808 ≤ n ∧ n ≤ 9223372036854775807) : IntKind.i64.wrap n = n := litOk_i64.2 h
theorem wrap_u8 {n : Int} (h : 0 ≤ n ∧ n ≤ 255) : IntKind.u8.wrap n = n := litOk_u8.2 h

theorem wrap_wrap (n : Int) : IntKind.i64.wrap (IntKind.i64.wrap n) = IntKind.i64.wrap n := by
  refine wrap_i64 ?_
  unfold IntKind.wrap
  simp only [IntKind.bits, IntKind.signed, Bool.true_and, ge_iff_le, decide_eq_true_eq, Int.reducePow, Nat.reduceSub]
  split <;> omega

theorem intD_ok {op : BinOp} {t : TypeId} {x y : Operand} {k : IntKind} {a b : Int} {c : Prop} {d : D} (h : intD op k a b = some (c, d)) (hc : c) (ha : litOk (.int k a)) (hb : litOk (.int k b)) :
    ∃ v, (do eqGuard op t x y (.int k a) (.int k b); binOp op t (.int k a) (.int k b) : Sem Value).run P w = .ok v w ∧ VX ms w Ok d v := by
  have hg : (eqGuard op t x y (.int k a) (.int k b)).run P w = .ok () w := by
    unfold eqGuard; split <;> simp [go_sem]
  simp only [Sem.run_bind, hg, Result.andThen]
  cases op <;> simp only [intD] at h
  case add =>
    cases k <;> simp only [Option.some.injEq, Prod.mk.injEq, reduceCtorEq] at h
    · obtain ⟨rfl, rfl⟩ := h
      exact ⟨_, by simp only [binOp, Op.intArith, go_sem, wrap_i64 hc, ne_eq, not_true_eq_false, ↓reduceIte]; rfl, int_vx (litOk_i64.2 hc)⟩
    · obtain ⟨rfl, rfl⟩ := h
      exact ⟨_, by simp only [binOp, Op.intArith, go_sem, wrap_u8 hc, ne_eq, not_true_eq_false, ↓reduceIte]; rfl, int_vx (litOk_u8.2 hc)⟩
  case sub =>
    cases k <;> simp only [Option.some.injEq, Prod.mk.injEq, reduceCtorEq] at h
    · obtain ⟨rfl, rfl⟩ := h
      exact ⟨_, by simp only [binOp, Op.intArith, go_sem, wrap_i64 hc, ne_eq, not_true_eq_false, ↓reduceIte]; rfl, int_vx (litOk_i64.2 hc)⟩
    · obtain ⟨rfl, rfl⟩ := h
      exact ⟨_, by simp only [binOp, Op.intArith, go_sem, wrap_u8 hc, ne_eq, not_true_eq_false, ↓reduceIte]; rfl, int_vx (litOk_u8.2 hc)⟩
  case mul =>
    cases k <;> simp only [Option.some.injEq, Prod.mk.injEq, reduceCtorEq] at h
    obtain ⟨rfl, rfl⟩ := h
    exact ⟨_, by simp only [binOp, Op.intArith, go_sem, wrap_i64 hc, ne_eq, not_true_eq_false, ↓reduceIte]; rfl, int_vx (litOk_i64.2 hc)⟩
  case quo =>
    cases k <;> simp only [Option.some.injEq, Prod.mk.injEq, reduceCtorEq] at h
    obtain ⟨rfl, rfl⟩ := h
    have hr := litOk_i64.1 ha
    have e : a.tdiv b = a / b := Int.tdiv_eq_ediv_of_nonneg hc.1
    have h0 : 0 ≤ a / b := Int.ediv_nonneg hc.1 (by omega)
    have h1 : a / b ≤ a := Int.ediv_le_self _ hc.1
    have hw : -9223372036854775808 ≤ a / b ∧ a / b ≤ 9223372036854775807 := ⟨by omega, by omega⟩
    refine ⟨.int .i64 (a / b), ?_, int_vx (litOk_i64.2 hw)⟩
    simp only [binOp, Op.intDiv, go_sem, ne_eq, not_true_eq_false, if_false, show ¬ b = 0 by omega, e, wrap_i64 hw]; rfl
  case shl =>
    cases k <;> simp only [Option.some.injEq, Prod.mk.injEq, reduceCtorEq] at h
    obtain ⟨rfl, rfl⟩ := h
    obtain ⟨h1, h2⟩ := hc
    refine ⟨.int .i64 (a * 2 ^ b.toNat), ?_, int_vx (litOk_i64.2 h2)⟩
    have e : min b.toNat IntKind.i64.bits = b.toNat := by simp only [IntKind.bits]; omega
    simp only [binOp, Op.shift, if_neg (show ¬ b < 0 by omega), e, wrap_i64 h2]; rfl
  case shr =>
    cases k <;> simp only [Option.some.injEq, Prod.mk.injEq, reduceCtorEq] at h
    obtain ⟨rfl, rfl⟩ := h
    have hr := litOk_i64.1 ha
    have e : min b.toNat IntKind.i64.bits = b.toNat := by simp only [IntKind.bits]; omega
    have hp : (0 : Int) < 2 ^ b.toNat := Int.pow_pos (by decide)
    have e2 : a.fdiv (2 ^ b.toNat) = a / 2 ^ b.toNat := Int.fdiv_eq_ediv_of_nonneg _ (by omega)
    have hlo : -9223372036854775808 ≤ a / 2 ^ b.toNat := by
      rw [Int.le_ediv_iff_mul_le hp]
      have : (-9223372036854775808 : Int) * 2 ^ b.toNat ≤ -9223372036854775808 * 1 := Int.mul_le_mul_of_nonpos_left (by omega) (by omega)
      omega
    have hhi : a / 2 ^ b.toNat ≤ 9223372036854775807 := by
      rcases Int.lt_or_le a 0 with h | h
      · have := Int.ediv_neg_of_neg_of_pos h hp; omega
      · have := Int.ediv_le_self (2 ^ b.toNat) h; omega
    refine ⟨.int .i64 (a / 2 ^ b.toNat), ?_, int_vx (litOk_i64.2 ⟨hlo, hhi⟩)⟩
    simp only [binOp, Op.shift, if_neg (show ¬ b < 0 by omega), e, e2]; rfl
  case and =>
    cases k <;> simp only [Option.some.injEq, Prod.mk.injEq, reduceCtorEq] at h
    obtain ⟨rfl, rfl⟩ := h
    exact ⟨.int .i64 (andI a b), by simp only [binOp, Op.intBits, ne_eq, not_true_eq_false, if_false]; rfl, int_vx (wrap_wrap _)⟩
  case or =>
    cases k <;> simp only [Option.some.injEq, Prod.mk.injEq, reduceCtorEq] at h
    obtain ⟨rfl, rfl⟩ := h
    exact ⟨.int .i64 (orI a b), by simp only [binOp, Op.intBits, ne_eq, not_true_eq_false, if_false]; rfl, int_vx (wrap_wrap _)⟩
  case andNot =>
    cases k <;> simp only [Option.some.injEq, Prod.mk.injEq, reduceCtorEq] at h
    obtain ⟨rfl, rfl⟩ := h
    exact ⟨.int .i64 (andNotI a b), by simp only [binOp, Op.intBits, ne_eq, not_true_eq_false, if_false]; rfl, int_vx (wrap_wrap _)⟩
  case rem =>
    cases k <;> simp only [Option.some.injEq, Prod.mk.injEq, reduceCtorEq] at h
    obtain ⟨rfl, rfl⟩ := h
    have hr := litOk_i64.1 hb
    have e : a.tmod b = a % b := Int.tmod_eq_emod_of_nonneg hc.1
    have h0 : 0 ≤ a % b := Int.emod_nonneg _ (by omega)
    have h1 : a % b < b := Int.emod_lt_of_pos _ hc.2
    refine ⟨.int .i64 (a % b), ?_, int_vx (litOk_i64.2 ⟨by omega, by omega⟩)⟩
    simp only [binOp, Op.intDiv, go_sem, ne_eq, not_true_eq_false, if_false, show ¬ b = 0 by omega, e]; rfl
  all_goals try (exfalso; simp at h; done)
  all_goals
    simp only [Option.some.injEq, Prod.mk.injEq] at h
    obtain ⟨rfl, rfl⟩ := h
    refine ⟨_, by simp only [binOp, Op.intCmp, go_sem, ne_eq, not_true_eq_false, if_false]; rfl, ?_⟩
    first
      | exact bool_vx
      | (rw [show (a == b) = decide (a = b) from by rw [Bool.eq_iff_iff]; simp]; exact bool_vx)
      | (rw [show (a != b) = !decide (a = b) from by rw [Bool.eq_iff_iff]; simp]; exact bool_vx)

theorem strD_ok {op : BinOp} {t : TypeId} {x y : Operand} {a b : ByteArray} {c : Prop} {d : D} (h : strD op a b = some (c, d)) (hc : c) :
    ∃ v, (do eqGuard op t x y (.string a) (.string b); binOp op t (.string a) (.string b) : Sem Value).run P w = .ok v w ∧ VX ms w Ok d v := by
  have hg : (eqGuard op t x y (.string a) (.string b)).run P w = .ok () w := by
    unfold eqGuard; split <;> simp [go_sem]
  simp only [Sem.run_bind, hg, Result.andThen]
  cases op <;> simp only [strD] at h
  all_goals try (exfalso; simp at h; done)
  all_goals
    simp only [Option.some.injEq, Prod.mk.injEq] at h
    obtain ⟨rfl, rfl⟩ := h
  case add =>
    refine ⟨.string (a ++ b), ?_, VX.of_lit ?_⟩
    · have : ¬ (((a.size + b.size : Nat) : Int) > IntKind.i64.max) := by
        have e : IntKind.i64.max = 9223372036854775807 := by simp [IntKind.max, IntKind.signed, IntKind.bits]
        rw [e]; omega
      simp only [binOp, Op.stringOp, if_neg this, go_sem]; rfl
    · simp only [litOk, ByteArray.size_append]; exact hc
  all_goals
    refine ⟨_, by simp only [binOp, Op.stringOp, go_sem]; rfl, ?_⟩
    try simp only [bytes_toList_beq]
    exact bool_vx

theorem boolD_ok {op : BinOp} {t : TypeId} {x y : Operand} {a b : Bool} {c : Prop} {d : D} (h : boolD op a b = some (c, d)) (hc : c) (ht : P.underlying t = some .bool) :
    ∃ v, (do eqGuard op t x y (.bool a) (.bool b); binOp op t (.bool a) (.bool b) : Sem Value).run P w = .ok v w ∧ VX ms w Ok d v := by
  have hg : (eqGuard op t x y (.bool a) (.bool b)).run P w = .ok () w := by
    unfold eqGuard; split <;> simp [go_sem]
  have he : (Op.equal t (.bool a) (.bool b)).run P w = .ok (a == b) w := by
    rw [show Op.equal t (.bool a) (.bool b) = Op.equalIn (9999 + 1) t (.bool a) (.bool b) from rfl]
    unfold Op.equalIn
    simp only [Sem.run_bind]
    have hu : (Go.underlying t).run P w = .ok .bool w := by simp [Go.underlying, go_sem, ht]
    simp only [hu, Result.andThen]
    simp [go_sem]
  simp only [Sem.run_bind, hg, Result.andThen]
  cases op <;> simp only [boolD] at h
  all_goals try (exfalso; simp at h; done)
  all_goals
    simp only [Option.some.injEq, Prod.mk.injEq] at h
    obtain ⟨rfl, rfl⟩ := h
    refine ⟨_, by simp only [binOp, Sem.run_bind, he, Result.andThen, go_sem]; rfl, bool_vx⟩

theorem binD_ok {tab : Nat → Option TI} (hT : TabOk P tab) {op : BinOp} {t : TypeId} {x y : Operand} {p q : D} {u v : Value} {c : Prop} {d : D} (h : binD tab op t p q = some (c, d)) (hc : c) (hu : VX ms w Ok p u) (hv : VX ms w Ok q v) :
    ∃ r, (do eqGuard op t x y u v; binOp op t u v : Sem Value).run P w = .ok r w ∧ VX ms w Ok d r := by
  unfold binD at h
  split at h
  · obtain ⟨rfl, h1⟩ := hu.lit_inv
    obtain ⟨rfl, h2⟩ := hv.lit_inv
    split at h
    · rename_i e
      cases kindEq_eq e
      exact intD_ok h hc h1 h2
    · simp at h
  · obtain ⟨rfl, h1⟩ := hu.lit_inv
    obtain ⟨rfl, h2⟩ := hv.lit_inv
    exact strD_ok h hc
  · obtain ⟨rfl, h1⟩ := hu.lit_inv
    obtain ⟨rfl, h2⟩ := hv.lit_inv
    split at h
    · rename_i e
      unfold isBoolK at e
      split at e
      · rename_i agg size bytes zero ht
        obtain ⟨inf, dd, z, _, h4, _, h5, _⟩ := hT.get ht
        exact boolD_ok h hc (by rw [h4, TK.bool_inv h5])
      · exact Bool.noConfusion e
    · simp at h
  · simp at h
end
end Go.Proofs.YtcpjhpjlcgcigaaGreatDoor
namespace Go.Proofs.YtcpjhpjlcgcigaaGreatDoor
open Go.ChangeShapes Go.WideShapes Go.ChangeAt Go.RowKit

def forceK {α : Type} : D → (D → Option α) → Option α
  | .no, _ => none
  | .lit v, k => k (.lit v)
  | .nil, k => k .nil
  | .sh n xs, k => k (.sh n xs)
  | .own i, k => k (.own i)
  | .vec i len, k => k (.vec i len)
  | .ptr i o, k => k (.ptr i o)
  | .pin b i o, k => k (.pin b i o)
  | .eptr i n j o, k => k (.eptr i n j o)
  | .part i m lo hi, k => k (.part i m lo hi)
  | .sptr ds, k => k (.sptr ds)
  | .agg ds, k => k (.agg ds)
  | .tup ds, k => k (.tup ds)
  | .fn f ds, k => k (.fn f ds)
  | .old w A d, k => k (.old w A d)
  | .val v, k => k (.val v)
  | .tag v d, k => k (.tag v d)
theorem forceK_eq {α : Type} {d : D} {k : D → Option α} {r : α} (h : forceK d k = some r) : k d = some r := by cases d <;> first | exact h | (simp [forceK] at h)
def mapK {α : Type} (ρ : Operand → D) : List Operand → (List D → Option α) → Option α
  | [], k => k []
  | x :: l, k => forceK (ρ x) fun d => mapK ρ l fun l' => k (d :: l')
theorem mapK_eq {α : Type} {ρ : Operand → D} : ∀ {l : List Operand} {k : List D → Option α} {r : α}, mapK ρ l k = some r → k (l.map ρ) = some r
  | [], _, _, h => h
  | x :: l, k, r, h => by
    have := mapK_eq (forceK_eq h)
    simpa using this
/-- Cells written over cells. -/
def putL {β : Type} : Nat → List β → List β → List β
  | _, [], l => l
  | _, _ :: _, [] => []
  | 0, d :: ds, _ :: l => d :: putL 0 ds l
  | n + 1, ds, c :: l => c :: putL n ds l
def putK {α : Type} : Nat → List D → List D → (List D → Option α) → Option α
  | _, [], l, k => k l
  | _, _ :: _, [], _ => none
  | 0, d :: ds, _ :: l, k => putK 0 ds l fun l' => k (d :: l')
  | n + 1, ds, c :: l, k => putK n ds l fun l' => k (c :: l')
theorem putK_eq {α : Type} : ∀ (n : Nat) (ds l : List D) {k : List D → Option α} {r : α}, putK n ds l k = some r → k (putL n ds l) = some r ∧ n + ds.length ≤ max l.length n
  | n, [], l, k, r, h => by
    cases n <;> cases l <;> simp only [putK] at h <;> simp only [putL] <;> exact ⟨h, by simp; try omega⟩
  | n, d :: ds, [], k, r, h => by cases n <;> simp [putK] at h
  | 0, d :: ds, c :: l, k, r, h => by
    have := putK_eq 0 ds l h
    exact ⟨this.1, by have := this.2; simp at this ⊢; omega⟩
  | n + 1, d :: ds, c :: l, k, r, h => by
    have := putK_eq n (d :: ds) l h
    exact ⟨this.1, by have := this.2; simp at this ⊢; omega⟩

def untag : D → D
  | .tag _ d => d
  | .pin _ i o => .ptr i o
  | d => d
def cellsD : D → Option (List D)
  | .agg ds => some ds
  | .lit v => some [.lit v]
  | .nil => some [.nil]
  | .sh n xs => some [.sh n xs]
  | .own i => some [.own i]
  | .tag u d => some [.tag u d]
  | _ => none

def buildK {α : Type} (ρ : Operand → D) (fs : List (Nat × Nat)) : List (Nat × Operand) → List D → (List D → Option α) → Option α
  | [], l, k => k l
  | (i, x) :: r, l, k => match fs[i]? with
    | some (o, z + 1) => match cellsD (ρ x) with
      | some ds => match Nat.beq ds.length (z + 1) with
        | true => putK o ds l fun l' => buildK ρ fs r l' k
        | false => none
      | none => none
    | _ => none

def constK {α : Type} : List Value → (List D → Option α) → Option α
  | [], k => k []
  | v :: l, k => forceK (constD v) fun d => constK l fun l' => k (d :: l')

/-- A byte of a string. -/
def bAt (s : ByteArray) (i : Int) : Int := ((s[i.toNat]?).getD 0).toNat

def lenD (heap : List Blk) : D → Option Int
  | .lit (.string s) => some s.size
  | .nil => some 0
  | .sh _ xs => some xs.length
  | .own i => match heap[i]? with
    | some (.arr _ _ xs _) => some xs.length
    | _ => none
  | .old _ _ (.sh _ xs) => some xs.length
  | _ => none

def minmaxD (mx : Bool) : D → D → Option (Prop × D)
  | .lit (.int .i64 a), .lit (.int .i64 b) => match mx with | true => some (True, .lit (.int .i64 (max a b))) | false => some (True, .lit (.int .i64 (min a b)))
  | _, _ => none
def partD (agg : Bool) (size : Nat) (ds : List D) : Option (Prop × D) :=
  match agg with
  | true => takeK size ds fun l => some (True, .agg l)
  | false => match ds with
    | d :: _ => forceK d fun d => some (True, d)
    | [] => none
def loadD (heap : List Blk) (agg : Bool) (size : Nat) : D → Option (Prop × D)
  | .sptr ds => partD agg size ds
  | .ptr i o => match heap[i]? with
    | some (.cells _ ds) => dropK o ds fun ds => partD agg size ds
    | _ => none
  | _ => none

def fieldPtr (off : Nat) : D → Option (Prop × D)
  | .ptr i o => some (True, .ptr i (o + off))
  | .eptr i n j o => some (True, .eptr i n j (o + off))
  | .sptr ds => dropK off ds fun ds => some (True, .sptr ds)
  | _ => none

def pickD : D → D → D → Option (Prop × D)
  | .lit (.bool c), .lit (.bool a), .lit (.bool b) => some (True, .lit (.bool (bif c then a else b)))
  | .lit (.bool c), a, b => match c with | true => forceK a fun d => some (True, d) | false => forceK b fun d => some (True, d)
  | _, _, _ => none

def lenOp (tab : Nat → Option TI) (heap : List Blk) (p : D) (t : TypeId) : Option (Prop × D) :=
  match tab t with
    | some ⟨.str, _, _, _, _⟩ => match p with
      | .lit (.string s) => some (True, .lit (.int .i64 s.size))
      | _ => none
    | some ⟨.sl _, _, _, _, _⟩ => match p with
      | .lit _ => none
      | d => match lenD heap d with
        | some n => some (True, .lit (.int .i64 n))
        | none => none
    | _ => none

def idxOwn (tab : Nat → Option TI) (heap : List Blk) (t : TypeId) (p q : D) : Option (Prop × D) :=
  match p with
  | .own k => match tab t, q with
    | some ⟨.sl e, _, _, _, _⟩, .lit (.int .i64 j) => match heap[k]?, tab e with
      | some (.arr _ n xs _), some ⟨_, _, size, _, _⟩ => match Nat.beq n size with
        | true => some (0 ≤ j ∧ j < xs.length, .eptr k n j 0)
        | false => none
      | _, _ => none
    | _, _ => none
  | _ => none

/-- The bounds of a part of a slice or string. -/
def boundsK (ρ : Operand → D) (len : Int) (lo hi : Option Operand) (f0 : D) (f1 f2 : Int → D) (f3 : Int → Int → D) : Option (Prop × D) :=
  match lo, hi with
  | none, none => some (True, f0)
  | none, some y => match ρ y with
    | .lit (.int .i64 h) => some (0 ≤ h ∧ h ≤ len, f1 h)
    | _ => none
  | some x, none => match ρ x with
    | .lit (.int .i64 l) => some (0 ≤ l ∧ l ≤ len, f2 l)
    | _ => none
  | some x, some y => match ρ x, ρ y with
    | .lit (.int .i64 l), .lit (.int .i64 h) => some (0 ≤ l ∧ l ≤ h ∧ h ≤ len, f3 l h)
    | _, _ => none
def sliceD (tab : Nat → Option TI) (ρ : Operand → D) (t : TypeId) (x : Operand) (lo hi mx : Option Operand) : Option (Prop × D) :=
  match mx with
  | some _ => none
  | none => match tab t, ρ x with
    | some ⟨.str, _, _, _, _⟩, .lit (.string s) => boundsK ρ s.size lo hi (.lit (.string s)) (fun h => .lit (.string (s.extract 0 h.toNat))) (fun l => .lit (.string (s.extract l.toNat s.size))) fun l h => .lit (.string (s.extract l.toNat h.toNat))
    | some ⟨.sl e, _, _, _, _⟩, .sh n xs => match tab e with
      | some ⟨_, _, size, _, _⟩ => match Nat.beq n size with
        | true => boundsK ρ xs.length lo hi (.sh n xs) (fun h => .sh n (xs.take h.toNat)) (fun l => .sh n (xs.drop l.toNat)) fun l h => .sh n ((xs.take h.toNat).drop l.toNat)
        | false => none
      | none => none
    | _, _ => none

def pop (tab : Nat → Option TI) (heap : List Blk) (ρ : Operand → D) : Op → Option (Prop × D)
  | .move x => forceK (untag (ρ x)) fun d => some (True, d)
  | .assign x => forceK (ρ x) fun d => some (True, d)
  | .pick c a b => pickD (ρ c) (ρ a) (ρ b)
  | .binOp op t x y _ => binD tab op t (ρ x) (ρ y)
  | .unOp op _ x => match op, ρ x with
    | .not, .lit (.bool b) => some (True, .lit (.bool (!b)))
    | .neg, .lit (.int .i64 n) => some (-9223372036854775808 ≤ -n ∧ -n ≤ 9223372036854775807, .lit (.int .i64 (-n)))
    | _, _ => none
  | .extract x i => match ρ x with
    | .tup ds => match ds[i]? with
      | some d => forceK d fun d => some (True, d)
      | none => none
    | _ => none
  | .makeFunc fn first cap => match fn, first.toList with
    | .func f, [] => mapK ρ cap.toList fun ds => some (True, .fn f ds)
    | _, _ => none
  | .fieldAddr s x f => match tab s with
    | some ⟨.st fs, _, _, _, _⟩ => match fs[f]? with
      | some (off, _ + 1) => fieldPtr off (ρ x)
      | _ => none
    | _ => none
  | .load t x => match tab t with
    | some ⟨_, agg, size, _, _⟩ => loadD heap agg size (ρ x)
    | none => none
  | .build t parts => match tab t with
    | some ⟨.st fs, _, _, _, zero⟩ => match fs.all fun f => !Nat.beq f.2 0 with
      | true => constK zero fun l => buildK ρ fs parts.toList l fun l => some (True, .agg l)
      | false => none
    | _ => none
  | .index t x i => match tab t, ρ x, ρ i with
    | some ⟨.str, _, _, _, _⟩, .lit (.string s), .lit (.int .i64 j) => some (0 ≤ j ∧ j < s.size, .lit (.int .u8 (bAt s j)))
    | _, _, _ => none
  | .indexAddr t x i => idxOwn tab heap t (ρ x) (ρ i)
  | .convert s t x => match tab s, tab t, ρ x with
    | some ⟨.int _, _, _, _, _⟩, some ⟨.int k, _, _, _, _⟩, .lit (.int _ n) => some (k.wrap n = n, .lit (.int k n))
    | _, _, _ => none
  | .call c => match c.callee, c.args.toList, c.argTypes.toList with
    | .builtin .len, [x], [t] => lenOp tab heap (ρ x) t
    | .builtin .min, [x, y], _ => minmaxD false (ρ x) (ρ y)
    | .builtin .max, [x, y], _ => minmaxD true (ρ x) (ρ y)
    | _, _, _ => none
  | .slice t x lo hi mx => sliceD tab ρ t x lo hi mx
  | .nilCheck x => match untag (ρ x) with
    | .ptr i o => some (True, .ptr i o)
    | _ => none
  | _ => none
end Go.Proofs.YtcpjhpjlcgcigaaGreatDoor
namespace Go.Proofs.YtcpjhpjlcgcigaaGreatDoor
open Go.ChangeShapes Go.WideShapes Go.ChangeAt Go.RowKit

section
variable {P : Program} {tab : Nat → Option TI} {heap : List Blk} {ms : List Ent} {w : World} {Ok : Nat → Prop} {base : Nat}

theorem run_underlying {t : TypeId} {d : TypeDesc} (h : P.underlying t = some d) : (Go.underlying t).run P w = .ok d w := by simp [Go.underlying, go_sem, h]
theorem run_typeInfo {t : TypeId} {i : TypeInfo} (h : P.info? t = some i) : (typeInfo t).run P w = .ok i w := by simp [typeInfo, go_sem, h]
theorem run_sizeOf {t : TypeId} {i : TypeInfo} (h : P.info? t = some i) : (sizeOf t).run P w = .ok i.size w := by simp [sizeOf, run_typeInfo h, Result.andThen]
theorem run_isAgg {t : TypeId} {d : TypeDesc} (h : P.underlying t = some d) : (isAgg t).run P w = .ok (aggDesc d) w := by
  simp only [isAgg, Sem.run_bind, run_underlying h, Result.andThen]
  cases d <;> rfl
theorem run_zero {t : TypeId} {i : TypeInfo} {z : Value} (h : P.info? t = some i) (hz : i.zero = some z) : (zeroValue t).run P w = .ok z w := by
  simp only [zeroValue, Sem.run_bind, run_typeInfo h, Result.andThen, hz]; rfl

theorem forceK_vx {d d' : D} {c : Prop} (h : forceK d (fun d => some (True, d)) = some (c, d')) : d' = d := by
  have := forceK_eq h
  simp only [Option.some.injEq, Prod.mk.injEq] at this
  exact this.2.symm

/-- A part of a row of cells, loaded. -/
theorem load_part {t : TypeId} {inf : TypeInfo} {td : TypeDesc} {b o : Nat} {ds : List D} {us : List Value} {agg : Bool} {size : Nat} (hi : P.info? t = some inf) (hu : P.underlying t = some td) (ha : agg = aggDesc td) (hs : inf.size = size)
    (hv : VXs ms w Ok ds us) (hc : ∀ j, j < us.length → w.cell? ⟨b, o + j, none⟩ = us[j]?) {c : Prop} {d : D}
    (h : partD agg size ds = some (c, d)) : ∃ v, (loadVar t ⟨b, o, none⟩).run P w = .ok v w ∧ VX ms w Ok d v := by
  subst hs
  unfold loadVar
  unfold partD at h
  simp only [Sem.run_bind, run_isAgg hu, Result.andThen, ← ha]
  cases agg with
  | true =>
    obtain ⟨h1, h2⟩ := takeK_eq _ _ _ h
    simp only [Option.some.injEq, Prod.mk.injEq] at h1
    obtain ⟨_, rfl⟩ := h1
    have hl := hv.len
    have hcells : (loadCells ⟨b, o, none⟩ inf.size).run P w = .ok (us.take inf.size).toArray w := by
      have := loadCellsFrom_ok (P := P) (w := w) (b := b) (o := o) (us.take inf.size) 0 #[] (fun j hj => by
        simp only [List.length_take] at hj
        rw [Nat.zero_add, hc j (by omega), List.getElem?_take, if_pos (by omega)])
      rw [List.length_take, Nat.min_eq_left (by omega)] at this
      simpa [loadCells] using this
    refine ⟨.agg (us.take inf.size).toArray, ?_, .agg (hv.take _)⟩
    simp only [if_true, Sem.run_bind, run_sizeOf hi, Result.andThen, hcells]; rfl
  | false =>
    cases hv with
    | nil => simp at h
    | cons hd _ =>
      simp only at h
      have := forceK_vx h
      subst this
      have h0 := hc 0 (by simp)
      refine ⟨_, ?_, hd⟩
      simp only [Nat.add_zero, List.getElem?_cons_zero] at h0
      simp only [Bool.false_eq_true, if_false, Go.load, Sem.run, h0]

theorem load_ok (hE : ∀ (i : Nat) (b : Blk) (e : Ent), heap[i]? = some b → ms[i]? = some e → EntR base ms w Ok b e) {t : TypeId} {inf : TypeInfo} {td : TypeDesc} {agg : Bool} {size : Nat} (hi : P.info? t = some inf) (hu : P.underlying t = some td) (ha : agg = aggDesc td) (hs : inf.size = size)
    {p : D} {u : Value} (hv : VX ms w Ok p u) {c : Prop} {d : D} (h : loadD heap agg size p = some (c, d)) : ∃ v, (Instr.loadAt t u).run P w = .ok v w ∧ VX ms w Ok d v := by
  unfold loadD at h
  split at h
  · obtain ⟨us, b, o, bs, rfl, h1, h2, h3, h4⟩ := hv.sptr_inv
    simp only [Instr.loadAt, Instr.sureAddr, Sem.run_bind, Sem.run, Result.andThen, pure]
    exact load_part hi hu ha hs (VXs.of_rd h1 h3) h4 h
  · rename_i i o
    obtain ⟨e, b, h1, h2, rfl⟩ := hv.ptr_inv
    split at h
    · rename_i t' ds hb
      obtain ⟨b', us, rfl, h3, h4⟩ := hE _ _ _ hb h1
      simp only [Option.some.injEq] at h2
      subst h2
      obtain ⟨h5, h6⟩ := dropK_eq _ _ _ h
      simp only [Instr.loadAt, Instr.sureAddr, Sem.run_bind, Sem.run, Result.andThen, pure]
      refine load_part hi hu ha hs (h4.drop o) ?_ h5
      intro j hj
      simp only [List.length_drop] at hj
      simp [World.cell?, h3]
    · simp at h
  · simp at h

theorem fieldPtr_ok {s : TypeId} {fs : Array Field} {f : Nat} {off z : Nat} (hu : P.underlying s = some (.struct fs)) (hf : (fs.toList.map fun f => (f.offset, P.cellsOf f.type))[f]? = some (off, z + 1))
    {p : D} {u : Value} (hv : VX ms w Ok p u) {c : Prop} {d : D} (h : fieldPtr off p = some (c, d)) : ∃ v, (Instr.fieldAt s u f).run P w = .ok v w ∧ VX ms w Ok d v := by
  rw [List.getElem?_map] at hf
  obtain ⟨fl, hfl, hfe⟩ := Option.map_eq_some_iff.1 hf
  simp only [Prod.mk.injEq] at hfe
  obtain ⟨rfl, hz⟩ := hfe
  have hfl' : fs[f]? = some fl := by simpa using hfl
  have key : ∀ b o, (Instr.fieldAt s (.pointer (some ⟨b, o, none⟩)) f).run P w = .ok (.pointer (some ⟨b, o + fl.offset, none⟩)) w := by
    intro b o
    have hsz : ∃ i, P.info? fl.type = some i ∧ i.size = z + 1 := by
      unfold Program.cellsOf at hz
      cases hi : P.info? fl.type with
      | none => simp [hi] at hz
      | some i => simp [hi] at hz; exact ⟨i, rfl, hz⟩
    obtain ⟨i, hi, hiz⟩ := hsz
    simp only [Instr.fieldAt, Sem.run_bind, run_underlying hu, Result.andThen, hfl', Instr.sureAddr, fieldPlace, pure, Sem.run, run_sizeOf hi, hiz, Nat.add_one_ne_zero, if_false]
    simp only [Addr.add]
    by_cases e : fl.offset = 0 <;> simp [e]
  unfold fieldPtr at h
  split at h
  · simp only [Option.some.injEq, Prod.mk.injEq] at h
    obtain ⟨_, rfl⟩ := h
    obtain ⟨e, b, h1, h2, rfl⟩ := hv.ptr_inv
    exact ⟨_, key _ _, .ptr h1 h2⟩
  · simp only [Option.some.injEq, Prod.mk.injEq] at h
    obtain ⟨_, rfl⟩ := h
    obtain ⟨e, b, h1, h2, rfl⟩ := hv.eptr_inv
    refine ⟨_, key _ _, ?_⟩
    rw [Nat.add_assoc]
    exact .eptr h1 h2
  · obtain ⟨h5, h6⟩ := dropK_eq _ _ _ h
    simp only [Option.some.injEq, Prod.mk.injEq] at h5
    obtain ⟨_, rfl⟩ := h5
    obtain ⟨us, b, o, bs, rfl, h1, h2, h3, h4⟩ := hv.sptr_inv
    refine ⟨_, key _ _, ?_⟩
    obtain ⟨bs', h7, h8⟩ := h1.part fl.offset ((us.drop fl.offset).length)
    have hl := h1.len
    rw [List.take_of_length_le (by simp [hl]), List.take_of_length_le (by simp)] at h7
    refine .sptr h7 h2 (fun k hk => h3 k (h8 k hk)) ?_
    intro j hj
    simp only [List.length_drop] at hj
    rw [Nat.add_assoc, h4 _ (by omega), List.getElem?_drop]
  · simp at h

theorem putL_nil {β : Type} (n : Nat) (l : List β) : putL n [] l = l := by cases n <;> cases l <;> rfl
theorem putL_cons : ∀ {β : Type} (l : List β) (n : Nat) (d : β) (ds : List β), n + ds.length < l.length → putL n (d :: ds) l = putL (n + 1) ds (l.set n d)
  | _, [], n, d, ds, h => by simp at h
  | _, c :: l, 0, d, [], _ => by rw [putL_nil]; show d :: putL 0 [] l = _; rw [putL_nil]; rfl
  | _, c :: l, 0, d, e :: ds, h => rfl
  | _, c :: l, n + 1, d, [], h => by
    show c :: putL n [d] l = _
    rw [putL_cons l n d [] (by simpa using h), putL_nil, putL_nil]; rfl
  | _, c :: l, n + 1, d, e :: ds, h => by
    show c :: putL n (d :: e :: ds) l = _
    rw [putL_cons l n d (e :: ds) (by simp at h ⊢; omega)]; rfl
theorem putL_vxs : ∀ (n : Nat) {ds l : List D} {us k : List Value}, VXs ms w Ok ds us → VXs ms w Ok l k → VXs ms w Ok (putL n ds l) (putL n us k)
  | 0, _, _, _, _, .nil, h => by cases h <;> (simp only [putL]; first | exact .nil | exact .cons ‹_› ‹_›)
  | n + 1, _, _, _, _, .nil, h => by cases h <;> (simp only [putL]; first | exact .nil | exact .cons ‹_› ‹_›)
  | 0, _, _, _, _, .cons _ _, .nil => .nil
  | n + 1, _, _, _, _, .cons _ _, .nil => .nil
  | 0, _, _, _, _, .cons h h', .cons _ h2 => .cons h (putL_vxs 0 h' h2)
  | n + 1, _, _, _, _, h@(.cons _ _), .cons h1 h2 => .cons h1 (putL_vxs n h h2)
theorem foldl_put (off : Nat) : ∀ (us : List Value) (j : Nat) (k : List Value), off + j + us.length ≤ k.length → (us.zipIdx j).foldl (fun cs (x : Value × Nat) => cs.setIfInBounds (off + x.2) x.1) k.toArray = (putL (off + j) us k).toArray
  | [], j, k, _ => by rw [putL_nil]; rfl
  | u :: us, j, k, h => by
    simp only [List.length_cons] at h
    rw [List.zipIdx_cons, List.foldl_cons, putL_cons k (off + j) u us (by omega)]
    have := foldl_put off us (j + 1) (k.set (off + j) u) (by simp; omega)
    simp only [List.setIfInBounds_toArray]
    rw [this, Nat.add_assoc]

theorem untag_ok {d : D} {u : Value} (h : VX ms w Ok d u) : VX ms w Ok (untag d) u := by
  cases d <;> try exact h
  · cases h with
    | rd h1 h2 => cases h1 with | tag h3 => exact .rd h3 h2
  · obtain ⟨e, h1, h2, rfl⟩ := h.pin_inv
    exact .ptr h1 h2
theorem cellsD_ok {p : D} {u : Value} {ds : List D} (hv : VX ms w Ok p u) (h : cellsD p = some ds) : ∃ us, u.cells = us.toArray ∧ VXs ms w Ok ds us := by
  unfold cellsD at h
  split at h <;> simp only [Option.some.injEq, reduceCtorEq] at h <;> subst h
  · obtain ⟨us, rfl, h2⟩ := hv.agg_inv; exact ⟨us, rfl, h2⟩
  · have h2 := hv
    obtain ⟨rfl, h1⟩ := hv.lit_inv
    exact ⟨[_], by cases u <;> first | rfl | exact h1.elim, .cons h2 .nil⟩
  · have h2 := hv
    have := hv.nil_inv; subst this; exact ⟨[_], rfl, .cons h2 .nil⟩
  · have h2 := hv
    obtain ⟨bs, h1, _⟩ := hv.sh_inv
    exact ⟨[u], by cases h1 <;> rfl, .cons h2 .nil⟩
  · have h2 := hv
    obtain ⟨e, _, rfl, a, n, c, h3⟩ := hv.own_inv
    exact ⟨[e.v], by rw [h3]; rfl, .cons h2 .nil⟩
  · have h2 := hv
    cases hv with
    | rd h1 _ => exact ⟨[u], by have := h1.one; cases u <;> simp_all [Value.oneCell', Value.cells], .cons h2 .nil⟩

theorem constK_ok : ∀ {vs : List Value} {k : List D → Option (Prop × D)} {r : Prop × D}, constK vs k = some r → ∃ ds, VXs ms w Ok ds vs ∧ k ds = some r
  | [], _, _, h => ⟨[], .nil, h⟩
  | v :: vs, _, _, h => by
    obtain ⟨ds, h1, h2⟩ := constK_ok (forceK_eq h)
    exact ⟨_, .cons (constD_ok v) h1, h2⟩

theorem buildK_ok {ρ : Operand → D} {ρ' : Operand → Value} {fs : List (Nat × Nat)} {d : D} {c : Prop} : ∀ {parts : List (Nat × Operand)} {l : List D} {us : List Value},
    (∀ x ∈ parts, VX ms w Ok (ρ x.2) (ρ' x.2)) → VXs ms w Ok l us → buildK ρ fs parts l (fun l => some (True, .agg l)) = some (c, d) →
      ∃ vs, Instr.fill (fun i => fs[i]?) us.toArray (parts.map fun x => (x.1, ρ' x.2)) = some vs ∧ VX ms w Ok d (.agg vs)
  | [], l, us, _, hv, h => by
    simp only [buildK, Option.some.injEq, Prod.mk.injEq] at h
    obtain ⟨_, rfl⟩ := h
    exact ⟨us.toArray, rfl, .agg hv⟩
  | (i, x) :: parts, l, us, hp, hv, h => by
    simp only [buildK] at h
    split at h
    · rename_i o z hi
      split at h
      · rename_i ds hds
        split at h
        · rename_i hz
          have hz := Nat.eq_of_beq_eq_true hz
          obtain ⟨h1, h2⟩ := putK_eq _ _ _ h
          obtain ⟨cs, h3, h4⟩ := cellsD_ok (hp (i, x) (by simp)) hds
          obtain ⟨vs, h5, h6⟩ := buildK_ok (fun y hy => hp y (List.mem_cons_of_mem _ hy)) (putL_vxs o h4 hv) h1
          refine ⟨vs, ?_, h6⟩
          simp only [List.map_cons, Instr.fill, hi, h3, List.size_toArray]
          have hl := h4.len
          have hl2 := hv.len
          have hm : o + ds.length ≤ us.length := by
            rw [hl2]; rcases Nat.le_total l.length o with hh | hh
            · rw [Nat.max_eq_right hh] at h2; omega
            · rw [Nat.max_eq_left hh] at h2; exact h2
          rw [if_neg (by simp; omega)]
          have := foldl_put o cs 0 us (by omega)
          simp only [Nat.add_zero] at this
          rw [← Array.foldl_toList, Array.toList_zipIdx, this]
          exact h5
        · simp at h
      · simp at h
    · simp at h

theorem VXs.of_map {ρ : Operand → D} {ρ' : Operand → Value} : ∀ {l : List Operand}, (∀ x ∈ l, VX ms w Ok (ρ x) (ρ' x)) → VXs ms w Ok (l.map ρ) (l.map ρ')
  | [], _ => .nil
  | x :: _, h => .cons (h x (by simp)) (VXs.of_map fun y hy => h y (List.mem_cons_of_mem _ hy))

theorem run_bound {i : Int} {y : Nat} {code : BoundsCode} (h : 0 ≤ i ∧ i ≤ y) : (Instr.sliceBound (.int .i64 i) y code).run P w = .ok i.toNat w := by
  simp only [Instr.sliceBound, asIntOf, Sem.run_bind, Sem.run, pure, Result.andThen, if_pos h]
theorem boundsK_ok {ρ : Operand → D} {ρ' : Operand → Value} {len : Nat} {lo hi : Option Operand} {f0 : D} {f1 f2 : Int → D} {f3 : Int → Int → D} {c : Prop} {d : D} (h : boundsK ρ len lo hi f0 f1 f2 f3 = some (c, d)) (hc : c)
    (hρ : ∀ x, (lo = some x ∨ hi = some x) → VX ms w Ok (ρ x) (ρ' x)) (b : Bool) {cap : Nat} (hcap : len ≤ cap) (hs : b = false → cap = len) (g : Nat → Nat → D) (g0 : f0 = g 0 len) (g1 : ∀ h, f1 h = g 0 h.toNat) (g2 : ∀ l, f2 l = g l.toNat len) (g3 : ∀ l h, f3 l h = g l.toNat h.toNat) :
    ∃ l h, l ≤ h ∧ h ≤ len ∧ d = g l h ∧ (Instr.sliceBounds b len cap (lo.map ρ') (hi.map ρ') none).run P w = .ok (l, h, cap) w := by
  unfold boundsK at h
  split at h
  · simp only [Option.some.injEq, Prod.mk.injEq] at h
    obtain ⟨_, rfl⟩ := h
    exact ⟨0, len, Nat.zero_le _, Nat.le_refl _, g0, by simp [Instr.sliceBounds, Sem.run_bind, Sem.run, pure, Result.andThen]⟩
  · rename_i y
    split at h
    · rename_i j hy
      simp only [Option.some.injEq, Prod.mk.injEq] at h
      obtain ⟨rfl, rfl⟩ := h
      have h1 := hρ y (Or.inr rfl)
      rw [hy] at h1
      obtain ⟨e1, _⟩ := h1.lit_inv
      refine ⟨0, j.toNat, Nat.zero_le _, by omega, g1 _, ?_⟩
      simp only [Instr.sliceBounds, Option.map_none, Option.map_some, e1, Sem.run_bind, Sem.run, pure, Result.andThen, run_bound (w := w) (y := cap) (i := j) ⟨hc.1, by omega⟩]
    · simp at h
  · rename_i x
    split at h
    · rename_i j hy
      simp only [Option.some.injEq, Prod.mk.injEq] at h
      obtain ⟨rfl, rfl⟩ := h
      have h1 := hρ x (Or.inl rfl)
      rw [hy] at h1
      obtain ⟨e1, _⟩ := h1.lit_inv
      refine ⟨j.toNat, len, by omega, Nat.le_refl _, g2 _, ?_⟩
      simp only [Instr.sliceBounds, Option.map_none, Option.map_some, e1, Sem.run_bind, Sem.run, pure, Result.andThen, run_bound (w := w) (y := len) (i := j) hc]
    · simp at h
  · rename_i x y
    split at h
    · rename_i j i hx hy
      simp only [Option.some.injEq, Prod.mk.injEq] at h
      obtain ⟨rfl, rfl⟩ := h
      have h1 := hρ x (Or.inl rfl)
      have h2 := hρ y (Or.inr rfl)
      rw [hx] at h1; rw [hy] at h2
      obtain ⟨e1, _⟩ := h1.lit_inv
      obtain ⟨e2, _⟩ := h2.lit_inv
      refine ⟨j.toNat, i.toNat, by omega, by omega, g3 _ _, ?_⟩
      simp only [Instr.sliceBounds, Option.map_some, e1, e2, Sem.run_bind, Sem.run, pure, Result.andThen, run_bound (w := w) (y := cap) (i := i) ⟨by omega, by omega⟩, run_bound (w := w) (y := i.toNat) (i := j) ⟨hc.1, by omega⟩]
    · simp at h
theorem flat_drop {n : Nat} : ∀ (l : Nat) {xs : List (List D)}, (∀ r ∈ xs, r.length = n) → (xs.drop l).flatten = xs.flatten.drop (l * n)
  | 0, xs, _ => by simp
  | l + 1, [], _ => by simp
  | l + 1, y :: xs, h => by
    rw [List.drop_succ_cons, flat_drop l fun r hr => h r (List.mem_cons_of_mem _ hr), List.flatten_cons, show (l + 1) * n = y.length + l * n by rw [h y (by simp), Nat.add_mul]; omega, ← List.drop_drop, List.drop_left]
theorem flat_take {n : Nat} : ∀ (l : Nat) {xs : List (List D)}, (∀ r ∈ xs, r.length = n) → (xs.take l).flatten = xs.flatten.take (l * n)
  | 0, xs, _ => by simp
  | l + 1, [], _ => by simp
  | l + 1, y :: xs, h => by
    rw [List.take_succ_cons, List.flatten_cons, flat_take l fun r hr => h r (List.mem_cons_of_mem _ hr), List.flatten_cons, show (l + 1) * n = y.length + l * n by rw [h y (by simp), Nat.add_mul]; omega, List.take_length_add_append]
theorem flat_len {n : Nat} : ∀ {l : List (List D)}, (∀ y ∈ l, y.length = n) → l.flatten.length = l.length * n
  | [], _ => by simp
  | y :: l, h => by rw [List.flatten_cons, List.length_append, flat_len fun z hz => h z (List.mem_cons_of_mem _ hz), h y (by simp), List.length_cons, Nat.add_mul]; omega
/-- A part of a slice that is read alone. -/
theorem VR.cut {n : Nat} {xs : List (List D)} {u : Value} {bs : List Nat} (h : VR w (.sh n xs) u bs) {l k : Nat} (h1 : l ≤ k) (h2 : k ≤ xs.length) : ∃ a m cap, u = .slice a m cap ∧ m = xs.length ∧ m ≤ cap ∧
    ∃ bs', VR w (.sh n ((xs.take k).drop l)) (.slice (if cap = l then a else a.map (·.add (l * n))) (k - l) (cap - l)) bs' ∧ ∀ i ∈ bs', i ∈ bs := by
  cases h with
  | shnil q1 q2 =>
    simp only [List.length_nil, Nat.le_zero] at h2
    subst h2
    obtain rfl : l = 0 := by omega
    rename_i a cap
    refine ⟨a, 0, cap, rfl, rfl, Nat.zero_le _, [], ?_, by simp⟩
    have : VR w (.sh n []) (.slice (if cap = 0 then a else a.map (·.add (0 * n))) 0 cap) [] := by
      refine .shnil q1 fun e => ?_
      by_cases hc : cap = 0
      · exact hc
      · rw [if_neg hc] at e; exact q2 (by simpa using e)
    simpa using this
  | sh q1 q2 q3 q4 q5 q6 =>
    rename_i b o cap us bs
    refine ⟨_, _, cap, rfl, rfl, q2, ?_⟩
    by_cases e : l = k
    · subst e
      have e0 : (xs.take l).drop l = [] := by simp
      rw [e0]
      refine ⟨[], ?_, by simp⟩
      rw [Nat.sub_self]
      refine .shnil (by omega) fun e => ?_
      by_cases hc : cap = l
      · omega
      · rw [if_neg hc] at e; simp at e
    · have hne : cap ≠ l := by omega
      rw [if_neg hne]
      obtain ⟨bs', p1, p2⟩ := q5.part (l * n) ((k - l) * n)
      have hmem : ∀ r ∈ (xs.take k).drop l, r.length = n := fun r hr => q1 r (List.mem_of_mem_take (List.mem_of_mem_drop hr))
      have hfl : ((xs.take k).drop l).flatten = (xs.flatten.drop (l * n)).take ((k - l) * n) := by
        rw [flat_drop l fun r hr => q1 r (List.mem_of_mem_take hr), flat_take k q1, List.drop_take]
        congr 1; rw [Nat.sub_mul]
      rw [← hfl] at p1
      have hk : ((xs.take k).drop l).length = k - l := by simp; omega
      have ha : (Option.map (fun x => Addr.add x (l * n)) (some ⟨b, o, none⟩)) = some ⟨b, o + l * n, none⟩ := by
        simp only [Option.map_some, Addr.add]
        by_cases e0 : l * n = 0 <;> simp [e0]
      rw [ha]
      refine ⟨b :: bs', ?_, fun i hi => ?_⟩
      · rw [← hk]
        exact .sh hmem (by omega) (by omega) q4 p1 (fun j hj => by
          have hl := q5.len; rw [flat_len q1] at hl
          have hjl : j < (k - l) * n := by simp at hj; omega
          have : l * n + j < us.length := by
            have h3 : k * n ≤ xs.length * n := Nat.mul_le_mul_right n h2
            have h4 : (k - l) * n = k * n - l * n := Nat.sub_mul ..
            omega
          rw [Nat.add_assoc, q6 _ this, List.getElem?_take, if_pos hjl, List.getElem?_drop])
      · rcases List.mem_cons.1 hi with rfl | hi
        · exact List.mem_cons_self ..
        · exact List.mem_cons_of_mem _ (p2 i hi)
theorem sliceD_ok (hT : TabOk P tab) {ρ : Operand → D} {ρ' : Operand → Value} {t : TypeId} {x : Operand} {lo hi mx : Option Operand} (hρ : ∀ y, (y = x ∨ lo = some y ∨ hi = some y) → VX ms w Ok (ρ y) (ρ' y))
    {c : Prop} {d : D} (h : sliceD tab ρ t x lo hi mx = some (c, d)) (hc : c) : ∃ v, (Instr.sliceAt t (ρ' x) (lo.map ρ') (hi.map ρ') (mx.map ρ')).run P w = .ok v w ∧ VX ms w Ok d v := by
  unfold sliceD at h
  split at h
  · simp at h
  have h5 := hρ x (Or.inl rfl)
  generalize ρ x = px at *
  split at h
  · rename_i s ht
    obtain ⟨inf, td, z, h1, h2, h3, h4, _⟩ := hT.get ht
    have htd := TK.str_inv h4
    obtain ⟨e1, e2⟩ := h5.lit_inv
    obtain ⟨l, k, k1, k2, rfl, k3⟩ := boundsK_ok (P := P) (w := w) h hc (fun y hy => hρ y (Or.inr hy)) false (cap := s.size) (Nat.le_refl _) (fun _ => rfl) (fun l h => .lit (.string (s.extract l h))) (by simp) (fun _ => rfl) (fun _ => rfl) (fun _ _ => rfl)
    refine ⟨.string (s.extract l k), ?_, VX.of_lit ?_⟩
    · simp only [Instr.sliceAt, Instr.slice, Sem.run_bind, run_underlying h2, Result.andThen, e1, htd, Option.map_none, Option.isSome_none, Bool.false_eq_true, if_false, k3]; rfl
    · simp only [litOk] at e2 ⊢
      simp; omega
  · rename_i n xs ht
    split at h
    · rename_i ht'
      split at h
      · rename_i hn
        have hn := Nat.eq_of_beq_eq_true hn
        obtain ⟨inf, td, z, h1, h2, h3, h4, _⟩ := hT.get ht
        obtain ⟨inf', td', z', g1, g2, g3, g4, g5, g6, _⟩ := hT.get ht'
        have htd := TK.sl_inv h4
        obtain ⟨bs, hv, hb⟩ := h5.sh_inv
        have hcap : ∃ a cap, ρ' x = .slice a xs.length cap ∧ xs.length ≤ cap := by
          obtain ⟨a, m, cap, e, rfl, hm, _⟩ := hv.cut (l := 0) (k := 0) (Nat.le_refl _) (Nat.zero_le _)
          exact ⟨a, cap, e, hm⟩
        obtain ⟨a, cap, e, hle⟩ := hcap
        obtain ⟨l, k, k1, k2, rfl, k3⟩ := boundsK_ok (P := P) (w := w) h hc (fun y hy => hρ y (Or.inr hy)) true (cap := cap) hle (by simp) (fun l h => .sh n ((xs.take h).drop l)) (by simp) (fun _ => by simp) (fun _ => by simp) (fun _ _ => rfl)
        obtain ⟨a', m, cap', e', rfl, _, bs', hv', hb'⟩ := hv.cut k1 k2
        rw [e] at e'
        simp only [Value.slice.injEq, true_and] at e'
        obtain ⟨rfl, rfl⟩ := e'
        refine ⟨_, ?_, .rd hv' fun i hi => hb i (hb' i hi)⟩
        simp only [Instr.sliceAt, Instr.slice, Sem.run_bind, run_underlying h2, Result.andThen, e, htd, Option.map_none, k3, run_sizeOf g1, g6, ← hn]; rfl
      · simp at h
    · simp at h
  · simp at h

theorem pop_ok (hT : TabOk P tab) (hE : ∀ (i : Nat) (b : Blk) (e : Ent), heap[i]? = some b → ms[i]? = some e → EntR base ms w Ok b e) (o : Oper) {ρ : Operand → D} {ρ' : Operand → Value} (hρ : ∀ x ∈ o.op.operands, VX ms w Ok (ρ x) (ρ' x))
    {c : Prop} {d : D} (h : pop tab heap ρ o.op = some (c, d)) (hc : c) : ∃ v, (execOp ρ' o).run P w = .ok (.value v) w ∧ VX ms w Ok d v := by
  have fin : ∀ {s : Sem Value} {q : D}, (∃ v, s.run P w = .ok v w ∧ VX ms w Ok q v) → ∃ v, (do pure (.value (← s)) : Sem Next).run P w = .ok (.value v) w ∧ VX ms w Ok q v := by
    rintro s q ⟨v, h1, h2⟩
    exact ⟨v, by simp only [Sem.run_bind, h1, Result.andThen]; rfl, h2⟩
  obtain ⟨dst, op, ty, pos, after, guard⟩ := o
  simp only at h hρ ⊢
  unfold pop at h
  split at h
  · -- move
    rename_i x
    rw [forceK_vx h]
    exact ⟨_, rfl, untag_ok (hρ x (by simp [Op.operands]))⟩
  · rename_i x
    rw [forceK_vx h]
    exact ⟨_, rfl, hρ x (by simp [Op.operands])⟩
  · -- pick
    rename_i cc a b
    have h1 := hρ cc (by simp [Op.operands])
    have h2 := hρ a (by simp [Op.operands])
    have h3 := hρ b (by simp [Op.operands])
    simp only [execOp]
    generalize ρ cc = pc at *
    generalize ρ a = pa at *
    generalize ρ b = pb at *
    unfold pickD at h
    split at h
    · rename_i x y z
      simp only [Option.some.injEq, Prod.mk.injEq] at h
      obtain ⟨_, rfl⟩ := h
      obtain ⟨e1, _⟩ := h1.lit_inv
      obtain ⟨e2, _⟩ := h2.lit_inv
      obtain ⟨e3, _⟩ := h3.lit_inv
      simp only [e1, e2, e3, asBool, Sem.run_bind]
      cases x <;> exact ⟨_, rfl, bool_vx⟩
    · rename_i x _
      obtain ⟨e1, _⟩ := h1.lit_inv
      simp only [e1, asBool, Sem.run_bind]
      cases x <;> simp only at h <;> rw [forceK_vx h]
      · exact ⟨_, rfl, h3⟩
      · exact ⟨_, rfl, h2⟩
    · simp at h
  · -- binOp
    rename_i op t x y _
    exact fin (binD_ok hT h hc (hρ x (by simp [Op.operands])) (hρ y (by simp [Op.operands])))
  · -- unOp
    rename_i op _ x
    have h1 := hρ x (by simp [Op.operands])
    simp only [execOp]
    generalize ρ x = px at *
    split at h
    · simp only [Option.some.injEq, Prod.mk.injEq] at h
      obtain ⟨_, rfl⟩ := h
      obtain ⟨e1, _⟩ := h1.lit_inv
      rw [e1]
      exact ⟨_, rfl, bool_vx⟩
    · simp only [Option.some.injEq, Prod.mk.injEq] at h
      obtain ⟨rfl, rfl⟩ := h
      obtain ⟨e1, _⟩ := h1.lit_inv
      rw [e1]
      exact fin ⟨_, by simp only [Op.unary, Op.intArith, Int.zero_sub, wrap_i64 hc]; rfl, int_vx (litOk_i64.2 hc)⟩
    · simp at h
  · -- extract
    rename_i x i
    have h1 := hρ x (by simp [Op.operands])
    simp only [execOp]
    generalize ρ x = px at *
    split at h
    · split at h
      · rename_i hd
        rw [forceK_vx h]
        obtain ⟨us, e1, h2⟩ := h1.tup_inv
        obtain ⟨u, h3, h4⟩ := h2.get hd
        rw [e1]
        exact fin ⟨u, by simp only [Instr.extract, List.getElem?_toArray, h3]; rfl, h4⟩
      · simp at h
    · simp at h
  · -- makeFunc
    rename_i fn first cap
    split at h
    case h_2 => simp at h
    rename_i f hfirst
    have hfirst : first = #[] := Array.toList_eq_nil_iff.1 hfirst
    subst hfirst
    have := mapK_eq h
    simp only [Option.some.injEq, Prod.mk.injEq] at this
    obtain ⟨_, rfl⟩ := this
    refine ⟨.func (.func f) #[] (cap.toList.map ρ').toArray, ?_, .fn ?_⟩
    · simp only [execOp, Instr.makeFunc]
      have : Array.map ρ' cap = (cap.toList.map ρ').toArray := by rw [← Array.toList_map]
      rw [← this, List.map_toArray, List.map_nil]; rfl
    · have hq : ∀ x ∈ cap.toList, VX ms w Ok (ρ x) (ρ' x) := fun x hx => hρ x (by simp [Op.operands]; simpa using hx)
      exact VXs.of_map hq
  · -- fieldAddr
    rename_i s x f
    split at h
    · rename_i fs agg size bytes zero ht
      obtain ⟨inf, td, z, h1, h2, h3, h4, _⟩ := hT.get ht
      obtain ⟨fl, rfl, rfl⟩ := TK.st_inv h4
      split at h
      · rename_i hf
        exact fin (fieldPtr_ok h2 hf (hρ x (by simp [Op.operands])) h)
      · simp at h
    · simp at h
  · -- load
    rename_i t x
    split at h
    · rename_i k agg size bytes zero ht
      obtain ⟨inf, td, z, h1, h2, h3, h4, h5, h6, _⟩ := hT.get ht
      exact fin (load_ok hE h1 h2 h5 h6 (hρ x (by simp [Op.operands])) h)
    · simp at h
  · -- build
    rename_i t parts
    split at h
    · rename_i fs agg size bytes zero ht
      obtain ⟨inf, td, z, h1, h2, h3, h4, h5, h6, h7, h8⟩ := hT.get ht
      obtain ⟨fl, rfl, rfl⟩ := TK.st_inv h4
      split at h
      case h_2 => simp at h
      rename_i hall
      obtain ⟨ds, h9, h10⟩ := constK_ok (ms := ms) (w := w) (Ok := Ok) h
      obtain ⟨vs, h11, h12⟩ := buildK_ok (ρ' := ρ') (fun y hy => hρ y.2 (by simp [Op.operands]; exact ⟨y.1, by simpa using hy⟩)) h9 h10
      refine fin ⟨.agg vs, ?_, h12⟩
      refine run_build w t _ vs ?_
      have hm : fl.toList.mapM (fun f => (P.info? f.type).map fun i => (f.offset, i.size)) = some (fl.toList.map fun f => (f.offset, P.cellsOf f.type)) := by
        refine mapM_some_of_forall _ fun f hf => ?_
        have := (List.all_eq_true.1 hall) (f.offset, P.cellsOf f.type) (List.mem_map.2 ⟨f, hf, rfl⟩)
        unfold Program.cellsOf at this ⊢
        cases hi : P.info? f.type with
        | none => simp [hi] at this
        | some i => simp
      have hz8 : z.cells = zero.toArray := by rw [← h8]
      simp only [Program.built, h1, h2, h3, hm, Array.toList_map, hz8, List.getElem?_toArray]
      exact h11
    · simp at h
  · -- index
    rename_i t x i
    split at h
    · rename_i agg size bytes zero s j ht hx hi
      simp only [Option.some.injEq, Prod.mk.injEq] at h
      obtain ⟨rfl, rfl⟩ := h
      obtain ⟨inf, td, z, h1, h2, h3, h4, _⟩ := hT.get ht
      have htd := TK.str_inv h4
      have h5 := hρ x (by simp [Op.operands])
      have h6 := hρ i (by simp [Op.operands])
      rw [hx] at h5; rw [hi] at h6
      obtain ⟨e1, _⟩ := h5.lit_inv
      obtain ⟨e2, _⟩ := h6.lit_inv
      have hlt : j.toNat < s.size := by omega
      refine fin ⟨.int .u8 (bAt s j), ?_, int_vx (litOk_u8.2 ?_)⟩
      · simp only [Instr.index, e1, e2, asIntOf, Sem.run_bind, Sem.run, pure, Result.andThen, run_underlying h2, htd, if_pos hc.1]
        simp only [bAt, getElem?_pos s j.toNat hlt, Option.getD_some]
        rfl
      · unfold bAt
        have := ((s[j.toNat]?).getD 0).toNat_lt
        omega
    · simp at h
  · -- indexAddr
    rename_i t x i
    unfold idxOwn at h
    split at h
    case h_2 => simp at h
    rename_i k hx
    split at h
    · rename_i el agg size bytes zero j ht hi
      split at h
      · rename_i n xs deep k' agg' size' bytes' zero' hb hel
        split at h
        · rename_i hn
          have hn := Nat.eq_of_beq_eq_true hn
          simp only [Option.some.injEq, Prod.mk.injEq] at h
          obtain ⟨rfl, rfl⟩ := h
          obtain ⟨inf, td, z, h1, h2, h3, h4, _⟩ := hT.get ht
          obtain ⟨inf', td', z', g1, g2, g3, g4, g5, g6, _⟩ := hT.get hel
          have htd := TK.sl_inv h4
          have h5 := hρ x (by simp [Op.operands])
          have h6 := hρ i (by simp [Op.operands])
          rw [hx] at h5; rw [hi] at h6
          obtain ⟨e, he, e1, a, len, cap, hv⟩ := h5.own_inv
          obtain ⟨e2, _⟩ := h6.lit_inv
          obtain ⟨us, bs, o1, o2, o3, o4, _⟩ := hE _ _ _ hb he
          have hne : 0 < xs.length := by omega
          obtain ⟨_, ⟨_, h0⟩ | ⟨g, cap', cur, hv', _⟩⟩ := o1
          · omega
          · refine fin ⟨.pointer (some ⟨g, j.toNat * n + 0, none⟩), ?_, .eptr he (by rw [o4, hv']; rfl)⟩
            simp only [Instr.indexAt, e1, hv', e2, asIntOf, Sem.run_bind, Sem.run, pure, Result.andThen, run_underlying h2, htd]
            have : (0 ≤ j ∧ j < (xs.length : Int)) := hc
            simp only [this, and_self, if_true, Addr.add]
            by_cases e : j.toNat * n = 0 <;> simp [e, run_sizeOf g1, g6, ← hn]
        · simp at h
      · simp at h
    · simp at h
  · -- convert
    rename_i s t x
    split at h
    · rename_i k agg size bytes zero k' agg' size' bytes' zero' k'' n ht ht' hx
      simp only [Option.some.injEq, Prod.mk.injEq] at h
      obtain ⟨rfl, rfl⟩ := h
      obtain ⟨inf, td, z, h1, h2, h3, h4, _⟩ := hT.get ht
      obtain ⟨inf', td', z', g1, g2, g3, g4, _⟩ := hT.get ht'
      have h5 := hρ x (by simp [Op.operands])
      rw [hx] at h5
      obtain ⟨e1, _⟩ := h5.lit_inv
      refine fin ⟨.int k' n, ?_, int_vx hc⟩
      simp only [convert, Sem.run_bind, run_underlying h2, run_underlying g2, Result.andThen, e1, TK.int_inv h4, TK.int_inv g4, Conv.intToInt, hc]; rfl
    · simp at h
  · -- len
    rename_i cl
    obtain ⟨callee, args, argTypes⟩ := cl
    simp only at h
    have mm : ∀ {x y : Operand} {bi : Builtin} {n : Int}, args = #[x, y] → callee = .builtin bi → (∀ cs, (builtin bi argTypes ty cs #[ρ' x, ρ' y]).run P w = .ok (.value (.int .i64 n)) w) → (execOp ρ' ⟨dst, .call ⟨callee, args, argTypes⟩, ty, pos, after, guard⟩).run P w = .ok (.value (.int .i64 n)) w := by
      rintro x y bi n rfl rfl hb
      simp only [execOp, resolve, invoke, Sem.run_bind, Sem.run, pure, Result.andThen, List.map_toArray, List.map_cons, List.map_nil]
      exact hb _
    split at h
    case h_4 => simp at h
    case h_2 =>
      rename_i x y e1
      have e1 : args = #[x, y] := by rw [← Array.toArray_toList (xs := args), e1]
      have h5 := hρ x (by rw [e1]; simp [Op.operands, Call.operands])
      have h6 := hρ y (by rw [e1]; simp [Op.operands, Call.operands])
      generalize hpx : ρ x = px at *
      generalize hpy : ρ y = py at *
      unfold minmaxD at h
      split at h
      · rename_i a b
        simp only [Option.some.injEq, Prod.mk.injEq] at h
        obtain ⟨_, rfl⟩ := h
        obtain ⟨q1, l1⟩ := h5.lit_inv
        obtain ⟨q2, l2⟩ := h6.lit_inv
        refine ⟨.int .i64 (min a b), mm e1 rfl ?_, int_vx ?_⟩
        · intro cs
          rw [q1, q2]
          have : (if b < a then b else a) = min a b := by omega
          rw [← this]; simp [builtin, Builtin.min_, Builtin.min2, Sem.run_bind, Result.andThen]; try rfl
        · have : min a b = a ∨ min a b = b := by omega
          rcases this with e | e <;> rw [e] <;> assumption
      · simp at h
    case h_3 =>
      rename_i x y e1
      have e1 : args = #[x, y] := by rw [← Array.toArray_toList (xs := args), e1]
      have h5 := hρ x (by rw [e1]; simp [Op.operands, Call.operands])
      have h6 := hρ y (by rw [e1]; simp [Op.operands, Call.operands])
      generalize hpx : ρ x = px at *
      generalize hpy : ρ y = py at *
      unfold minmaxD at h
      split at h
      · rename_i a b
        simp only [Option.some.injEq, Prod.mk.injEq] at h
        obtain ⟨_, rfl⟩ := h
        obtain ⟨q1, l1⟩ := h5.lit_inv
        obtain ⟨q2, l2⟩ := h6.lit_inv
        refine ⟨.int .i64 (max a b), mm e1 rfl ?_, int_vx ?_⟩
        · intro cs
          rw [q1, q2]
          have : (if b > a then b else a) = max a b := by omega
          rw [← this]; simp [builtin, Builtin.max_, Builtin.max2, Sem.run_bind, Result.andThen]; try rfl
        · have : max a b = a ∨ max a b = b := by omega
          rcases this with e | e <;> rw [e] <;> assumption
      · simp at h
    rename_i x t e1 e2
    have e1 : args = #[x] := by rw [← Array.toArray_toList (xs := args), e1]
    have e2 : argTypes = #[t] := by rw [← Array.toArray_toList (xs := argTypes), e2]
    subst e1; subst e2
    have h5 := hρ x (by simp [Op.operands, Call.operands])
    have key : ∀ {d : D}, (∃ v, (Builtin.len_ #[t] ty #[ρ' x]).run P w = .ok v w ∧ VX ms w Ok d v) → ∃ v, (execOp ρ' ⟨dst, .call ⟨.builtin .len, #[x], #[t]⟩, ty, pos, after, guard⟩).run P w = .ok (.value v) w ∧ VX ms w Ok d v := by
      rintro d ⟨v, h1, h2⟩
      refine ⟨v, ?_, h2⟩
      simp only [execOp, resolve, invoke, builtin, Sem.run_bind, Sem.run, pure, Result.andThen, List.map_toArray, List.map_cons, List.map_nil, h1]
      try rfl
    unfold lenOp at h
    split at h
    · rename_i agg size bytes zero ht
      obtain ⟨inf, td, z, h1, h2, h3, h4, _⟩ := hT.get ht
      generalize ρ x = px at *
      split at h
      · rename_i s
        simp only [Option.some.injEq, Prod.mk.injEq] at h
        obtain ⟨_, rfl⟩ := h
        obtain ⟨e1, e2⟩ := h5.lit_inv
        refine key ⟨.int .i64 s.size, ?_, int_vx (litOk_i64.2 ⟨by omega, by simp only [litOk] at e2; omega⟩)⟩
        simp [Builtin.len_, Sem.run_bind, run_underlying h2, Result.andThen, e1, TK.str_inv h4, goInt]
      · simp at h
    · rename_i el agg size bytes zero ht
      obtain ⟨inf, td, z, h1, h2, h3, h4, _⟩ := hT.get ht
      generalize ρ x = px at *
      split at h
      · simp at h
      · split at h
        · rename_i n hn
          simp only [Option.some.injEq, Prod.mk.injEq] at h
          obtain ⟨_, rfl⟩ := h
          have hsl : ∃ a m cap, ρ' x = .slice a m cap ∧ (m : Int) = n ∧ n ≤ 9223372036854775807 ∧ 0 ≤ n := by
            unfold lenD at hn
            split at hn <;> (try simp only [Option.some.injEq, reduceCtorEq] at hn)
            · rename_i s hl; exact (hl _ rfl).elim
            · subst hn; exact ⟨none, 0, 0, h5.nil_inv, rfl, by omega, by omega⟩
            · subst hn
              obtain ⟨bs, hr, _⟩ := h5.sh_inv
              generalize ρ' x = u at *
              cases hr with
              | shnil q1 q2 => exact ⟨_, _, _, rfl, by simp, by simp, by simp⟩
              | sh q1 q2 q3 q4 q5 q6 => exact ⟨_, _, _, rfl, by simp, by omega, by omega⟩
            · split at hn
              · rename_i hb
                simp only [Option.some.injEq] at hn
                subst hn
                obtain ⟨e, he, e1, _⟩ := h5.own_inv
                obtain ⟨us, bs, o1, _⟩ := hE _ _ _ hb he
                obtain ⟨_, ⟨hv, h0⟩ | ⟨g, cap', cur, hv', _, _, q1, q2, _⟩⟩ := o1
                · exact ⟨none, 0, 0, by rw [e1, hv], by omega, by omega, by omega⟩
                · unfold maxLen at q2
                  exact ⟨_, _, _, by rw [e1, hv'], rfl, by omega, by omega⟩
              · simp at hn
            · subst hn
              generalize ρ' x = u at *
              cases h5 with
              | rd h _ => cases h
              | old hr _ =>
                cases hr with
                | shnil q1 q2 => exact ⟨_, _, _, rfl, by simp, by simp, by simp⟩
                | sh q1 q2 q3 q4 q5 q6 => exact ⟨_, _, _, rfl, by simp, by omega, by omega⟩
          obtain ⟨a, m, cap, e1, rfl, e3, e4⟩ := hsl
          refine key ⟨.int .i64 m, ?_, int_vx (litOk_i64.2 ⟨by omega, e3⟩)⟩
          simp [Builtin.len_, Sem.run_bind, run_underlying h2, Result.andThen, e1, TK.sl_inv h4, goInt]
        · simp at h
    · simp at h
  · -- slice
    rename_i t x lo hi mx
    have hq : ∀ y, (y = x ∨ lo = some y ∨ hi = some y) → VX ms w Ok (ρ y) (ρ' y) := by
      intro y hy
      refine hρ y ?_
      simp only [Op.operands]
      rcases hy with rfl | hy | hy
      · simp
      · simp [hy]
      · simp [hy]
    have h1 := sliceD_ok hT hq h hc
    exact fin h1
  · -- nilCheck
    rename_i x
    have h1 := untag_ok (hρ x (by simp [Op.operands]))
    simp only [execOp]
    generalize untag (ρ x) = px at *
    split at h
    · simp only [Option.some.injEq, Prod.mk.injEq] at h
      obtain ⟨_, rfl⟩ := h
      obtain ⟨e, b, p1, p2, p3⟩ := h1.ptr_inv
      refine ⟨ρ' x, ?_, h1⟩
      rw [p3]; simp [Sem.run_bind, Sem.run, pure, Result.andThen, asAddr]
    · simp at h
  · simp at h
end
end Go.Proofs.YtcpjhpjlcgcigaaGreatDoor
namespace Go.Proofs.YtcpjhpjlcgcigaaGreatDoor
open Go.ChangeShapes Go.WideShapes Go.ChangeAt Go.RowKit

/-- From every state that s tells of, the code ends, in a way and a state that Q allows. -/
structure W (P : Program) (w0 : World) (A : Nat → Prop) (c : Code) (s : St) (Q : Exit → St → Prop) : Prop where
  run : ∀ ms a w, Rel w0 A ms s a w → c.wp P (fun e a' w' => ∃ ms' s', Rel w0 A ms' s' a' w' ∧ Q e s') a w
/-- The same of operations, in their order. -/
structure WO (P : Program) (w0 : World) (A : Nat → Prop) (ops : Array Oper) (l : List Oper) (s : St) (K : St → Prop) : Prop where
  run : ∀ ms a w, Rel w0 A ms s a w → ∀ Q : Exit → Act → World → Prop, (∀ ms' s' a' w', Rel w0 A ms' s' a' w' → K s' → Q .normal a' w') → wpList P ops Q l a w
/-- Everything that s tells, s' tells too, or less. -/
def Weak (w0 : World) (A : Nat → Prop) (s s' : St) : Prop := ∀ ms a w, Rel w0 A ms s a w → ∃ ms', Rel w0 A ms' s' a w

inductive seqQ (P : Program) (w0 : World) (A : Nat → Prop) (y : Code) (Q : Exit → St → Prop) : Exit → St → Prop
  | n {s : St} : W P w0 A y s Q → seqQ P w0 A y Q .normal s
  | e {s : St} {id : Nat} : Q (.exit id) s → seqQ P w0 A y Q (.exit id) s
  | r {s : St} : Q .ret s → seqQ P w0 A y Q .ret s
inductive blockQ (id : Nat) (Q : Exit → St → Prop) : Exit → St → Prop
  | n {s : St} : Q .normal s → blockQ id Q .normal s
  | r {s : St} : Q .ret s → blockQ id Q .ret s
  | x {s : St} {id' : Nat} : Nat.beq id' id = true → Q .normal s → blockQ id Q (.exit id') s
  | y {s : St} {id' : Nat} : Nat.beq id' id = false → Q (.exit id') s → blockQ id Q (.exit id') s
inductive loopQ (I : St → Prop) (Q : Exit → St → Prop) : Exit → St → Prop
  | n {s : St} : I s → loopQ I Q .normal s
  | e {s : St} {id : Nat} : Q (.exit id) s → loopQ I Q (.exit id) s
  | r {s : St} : Q .ret s → loopQ I Q .ret s

section
variable {P : Program} {w0 : World} {A : Nat → Prop} {s : St} {Q : Exit → St → Prop}

theorem W_skip (h : Q .normal s) : W P w0 A .skip s Q := ⟨fun ms _ _ hr => wp_skip ⟨ms, s, hr, h⟩⟩
theorem W_ret (h : Q .ret s) : W P w0 A .ret s Q := ⟨fun ms _ _ hr => wp_ret ⟨ms, s, hr, h⟩⟩
theorem W_exit {id : Nat} (h : Q (.exit id) s) : W P w0 A (.exit id) s Q := ⟨fun ms _ _ hr => wp_exit ⟨ms, s, hr, h⟩⟩
theorem W_seq {x y : Code} (h : W P w0 A x s (seqQ P w0 A y Q)) : W P w0 A (.seq x y) s Q := by
  refine ⟨fun ms a w hr => ?_⟩
  refine wp_seq (Code.wp_mono ?_ (h.run ms a w hr))
  rintro e a' w' ⟨ms', s', hr', hq⟩
  cases hq with
  | n h => exact h.run ms' a' w' hr'
  | e h => exact ⟨ms', s', hr', h⟩
  | r h => exact ⟨ms', s', hr', h⟩
theorem W_block {id : Nat} {c : Code} (h : W P w0 A c s (blockQ id Q)) : W P w0 A (.block id c) s Q := by
  refine ⟨fun ms a w hr => ?_⟩
  refine wp_block (Code.wp_mono ?_ (h.run ms a w hr))
  rintro e a' w' ⟨ms', s', hr', hq⟩
  cases hq with
  | n h => exact ⟨ms', s', hr', h⟩
  | r h => exact ⟨ms', s', hr', h⟩
  | x hb h => simp only [Exit.inBlock, if_pos (Nat.eq_of_beq_eq_true hb)]; exact ⟨ms', s', hr', h⟩
  | y hb h => simp only [Exit.inBlock, if_neg (Nat.ne_of_beq_eq_false hb)]; exact ⟨ms', s', hr', h⟩
theorem W_cond {c : Operand} {x y : Code} {b : Bool} (hc : evD s.get c = .lit (.bool b)) (ht : b = true → W P w0 A x s Q) (hf : b = false → W P w0 A y s Q) : W P w0 A (.cond c x y) s Q := by
  refine ⟨fun ms a w hr => ?_⟩
  have h1 : VX ms w (OkB w0.heap.size A ms w) (evD s.get c) (a.eval c) := evD_ok fun t _ => hr.slots t
  rw [hc] at h1
  obtain ⟨e, _⟩ := h1.lit_inv
  cases b
  · exact wp_cond_false e ((hf rfl).run ms a w hr)
  · exact wp_cond_true e ((ht rfl).run ms a w hr)
theorem W_weak {c : Code} {s' : St} (h : Weak w0 A s s') (h' : W P w0 A c s' Q) : W P w0 A c s Q := by
  refine ⟨fun ms a w hr => ?_⟩
  obtain ⟨ms', hr'⟩ := h ms a w hr
  exact h'.run ms' a w hr'

theorem least_exists (p : Nat → Prop) : ∀ n, p n → ∃ m, p m ∧ ∀ k, p k → m ≤ k := by
  intro n
  induction n using Nat.strongRecOn with
  | _ n ih =>
    intro h
    by_cases hh : ∃ k, k < n ∧ p k
    · obtain ⟨k, hk, hp⟩ := hh; exact ih k hk hp
    · exact ⟨n, h, fun k hk => Nat.le_of_not_lt fun hlt => hh ⟨k, hlt, hk⟩⟩
open Classical in
noncomputable def leastOf (p : Nat → Prop) : Nat := if h : ∃ m, p m ∧ ∀ k, p k → m ≤ k then Classical.choose h else 0
theorem leastOf_spec {p : Nat → Prop} {n : Nat} (h : p n) : p (leastOf p) ∧ ∀ k, p k → leastOf p ≤ k := by
  have := least_exists p n h
  unfold leastOf
  rw [dif_pos this]
  exact Classical.choose_spec this

theorem W_loop {ι : Type} (S : ι → St) (C : ι → Prop) (μ : ι → Nat) {c : Code} (i0 : ι) (h0 : C i0) (hs : Weak w0 A s (S i0))
    (round : ∀ i, C i → W P w0 A c (S i) (loopQ (fun s' => ∃ j, C j ∧ μ j < μ i ∧ Weak w0 A s' (S j)) Q)) : W P w0 A (.loop c) s Q := by
  refine ⟨fun ms a w hr => ?_⟩
  obtain ⟨ms0, hr0⟩ := hs ms a w hr
  let p : Act → World → Nat → Prop := fun a w n => ∃ i ms, C i ∧ μ i = n ∧ Rel w0 A ms (S i) a w
  refine wp_loop (fun a w => ∃ n, p a w n) (fun a w => leastOf (p a w)) ⟨_, i0, ms0, h0, rfl, hr0⟩ ?_
  rintro a w ⟨n, hn⟩
  obtain ⟨⟨i, ms, hi, hμ, hr⟩, hmin⟩ := leastOf_spec (p := p a w) hn
  refine Code.wp_mono ?_ ((round i hi).run ms a w hr)
  rintro e a' w' ⟨ms', s', hr', hq⟩
  cases hq with
  | n h =>
    obtain ⟨j, hj, hlt, hw⟩ := h
    obtain ⟨ms'', hr''⟩ := hw ms' a' w' hr'
    have hpj : p a' w' (μ j) := ⟨j, ms'', hj, rfl, hr''⟩
    refine ⟨⟨_, hpj⟩, ?_⟩
    have := (leastOf_spec hpj).2 _ hpj
    show leastOf (p a' w') < leastOf (p a w)
    rw [← hμ]; omega
  | e h => exact ⟨ms', s', hr', h⟩
  | r h => exact ⟨ms', s', hr', h⟩

theorem W_region {id : Nat} {l : List Oper} (h : WO P w0 A l.toArray l s fun s' => Q .normal s') : W P w0 A (.region id l.toArray false) s Q := by
  refine ⟨fun ms a w hr => ?_⟩
  exact wp_region_lit (h.run ms a w hr _ fun ms' s' a' w' hr' hk => ⟨ms', s', hr', hk⟩)

/-! ### Operations -/
variable {ops : Array Oper} {rest : List Oper} {o : Oper} {K : St → Prop}

theorem WO_nil (h : K s) : WO P w0 A ops [] s K := ⟨fun ms a w hr _ hq => wpList_nil (hq ms s a w hr h)⟩

theorem upon_value {a : Act} {w w' : World} {v : Value} {Kn : Act → World → Prop} {Q' : Exit → Act → World → Prop} (h : (execOp a.eval o).run P w = .ok (.value v) w') (hk : Kn (a.put o.dst v) w') : o.wp P a w Kn Q' := by
  unfold Oper.wp; rw [h]; exact hk
theorem upon_skip {a : Act} {w w' : World} {Kn : Act → World → Prop} {Q' : Exit → Act → World → Prop} (h : (execOp a.eval o).run P w = .ok .skip w') (hk : Kn (a.put o.dst undef) w') : o.wp P a w Kn Q' := by
  unfold Oper.wp; rw [h]; exact hk

def dstOk (s : St) (t : Option Tmp) : Bool := t.all fun x => Nat.blt x s.n
theorem dstOk_all {s : St} {t : Option Tmp} (h : dstOk s t = true) : t.all (· < s.n) = true := by
  cases t with
  | none => rfl
  | some x => simpa [dstOk, Nat.blt_eq] using h

theorem Rel.ev {ms : List Ent} {a : Act} {w : World} (hr : Rel w0 A ms s a w) (x : Operand) : VX ms w (OkB w0.heap.size A ms w) (evD s.get x) (a.eval x) := evD_ok fun t _ => hr.slots t
theorem Rel.ev_at {ms : List Ent} {a : Act} {w : World} {x : Operand} {d : D} (hr : Rel w0 A ms s a w) (h : evD s.get x = d) : VX ms w (OkB w0.heap.size A ms w) d (a.eval x) := by rw [← h]; exact hr.ev x

/-- An operation that reckons or reads. -/
theorem WO_pop {tab : Nat → Option TI} (hT : TabOk P tab) {c : Prop} {d : D} (hg : o.guard = none) (h : pop tab s.heap (evD s.get) o.op = some (c, d)) (hd : dstOk s o.dst = true) (hc : c) (hk : WO P w0 A ops rest (s.put o.dst d) K) : WO P w0 A ops (o :: rest) s K := by
  refine ⟨fun ms a w hr Q hq => ?_⟩
  refine wpList_plain hg fun Kn hKn => ?_
  obtain ⟨v, h1, h2⟩ := pop_ok hT hr.ents o (fun x _ => hr.ev x) h hc
  exact upon_value h1 (hKn _ _ (hk.run ms _ w (hr.put h2 (dstOk_all hd)) Q hq))

/-- A slice that is read alone, at an index. -/
def RowAt (xs : List (List D)) (j : Int) (r : List D) : Prop := 0 ≤ j ∧ xs[j.toNat]? = some r

theorem flatten_part {n : Nat} : ∀ {l : List (List D)} {m : Nat}, (∀ y ∈ l, y.length = n) → ∀ {r : List D}, l[m]? = some r → (l.flatten.drop (m * n)).take n = r
  | [], m, _, r, h => by simp at h
  | y :: l, 0, hy, r, h => by
    simp at h; subst h
    simp [← hy y (by simp)]
  | y :: l, m + 1, hy, r, h => by
    simp at h
    have := flatten_part (fun z hz => hy z (List.mem_cons_of_mem _ hz)) h
    have e : (m + 1) * n = y.length + m * n := by rw [hy y (by simp), Nat.add_mul]; omega
    rw [List.flatten_cons, e, ← List.drop_drop, List.drop_left]
    exact this
theorem flatten_len {n : Nat} : ∀ {l : List (List D)}, (∀ y ∈ l, y.length = n) → l.flatten.length = l.length * n
  | [], _ => by simp
  | y :: l, h => by rw [List.flatten_cons, List.length_append, flatten_len fun z hz => h z (List.mem_cons_of_mem _ hz), h y (by simp), List.length_cons, Nat.add_mul]; omega
theorem index_ok {t : TypeId} {x i : Operand} {n : Nat} {xs : List (List D)} {j : Int} {r : List D} {tab : Nat → Option TI} (hT : TabOk P tab) {e : TypeId} {agg : Bool} {size bytes : Nat} {zero : List Value}
    {k' : TK} {agg' : Bool} {bytes' : Nat} {zero' : List Value} (ht : tab t = some ⟨.sl e, agg, size, bytes, zero⟩) (he : tab e = some ⟨k', agg', n, bytes', zero'⟩) (ho : o.op = .indexAddr t x i)
    {ms : List Ent} {w : World} {Ok : Nat → Prop} {ρ' : Operand → Value} (hx : VX ms w Ok (.sh n xs) (ρ' x)) (hi : VX ms w Ok (.lit (.int .i64 j)) (ρ' i)) (hrow : RowAt xs j r) :
    ∃ v, (execOp ρ' o).run P w = .ok (.value v) w ∧ VX ms w Ok (.sptr r) v := by
  obtain ⟨bs, h1, h2⟩ := hx.sh_inv
  obtain ⟨e2, _⟩ := hi.lit_inv
  obtain ⟨inf, td, z, g1, g2, g3, g4, _⟩ := hT.get ht
  obtain ⟨inf', td', z', f1, f2, f3, f4, f5, f6, _⟩ := hT.get he
  have htd := TK.sl_inv g4
  obtain ⟨hj0, hj⟩ := hrow
  have hlt := (List.getElem?_eq_some_iff.1 hj).1
  generalize hu : ρ' x = u at *
  cases h1 with
  | shnil => simp at hlt
  | sh q1 q2 q3 q4 q5 q6 =>
    rename_i b off cap us bs
    have hlen : ∀ y ∈ xs, y.length = n := q1
    obtain ⟨bs', p1, p2⟩ := q5.part (j.toNat * n) n
    rw [flatten_part hlen hj] at p1
    have hlr : r.length = n := hlen r (List.mem_of_getElem? hj)
    refine ⟨.pointer (some ⟨b, off + j.toNat * n, none⟩), ?_, .sptr p1 (h2 b (by simp)) (fun k hk => h2 k (List.mem_cons_of_mem _ (p2 k hk))) ?_⟩
    · simp only [execOp, ho, Instr.indexAt, hu, e2, asIntOf, Sem.run_bind, Sem.run, pure, Result.andThen, run_underlying g2, htd]
      have hjj : (0 ≤ j ∧ j < (xs.length : Int)) := ⟨hj0, by omega⟩
      simp only [hjj, and_self, if_true, Addr.add]
      by_cases e0 : j.toNat * n = 0 <;> simp [e0, run_sizeOf f1, f6]
    · intro m hm
      have hl := p1.len
      have hus := q5.len
      have hmn : m < n := by rw [hl, hlr] at hm; exact hm
      have : j.toNat * n + m < us.length := by
        have hfl := flatten_len hlen
        rw [hus, hfl]
        have := mul_lt_of (m := n) hlt
        omega
      rw [Nat.add_assoc, q6 _ this, List.getElem?_take, if_pos hmn, List.getElem?_drop]

theorem WO_index {tab : Nat → Option TI} (hT : TabOk P tab) {t : TypeId} {x i : Operand} {n : Nat} {xs : List (List D)} {j : Int} {r : List D} {e : TypeId} {agg : Bool} {size bytes : Nat} {zero : List Value}
    {k' : TK} {agg' : Bool} {bytes' : Nat} {zero' : List Value} (hg : o.guard = none) (ho : o.op = .indexAddr t x i) (hx : evD s.get x = .sh n xs) (hi : evD s.get i = .lit (.int .i64 j)) (ht : tab t = some ⟨.sl e, agg, size, bytes, zero⟩) (he : tab e = some ⟨k', agg', n, bytes', zero'⟩)
    (hd : dstOk s o.dst = true) (hrow : RowAt xs j r) (hk : WO P w0 A ops rest (s.put o.dst (.sptr r)) K) : WO P w0 A ops (o :: rest) s K := by
  refine ⟨fun ms a w hr Q hq => ?_⟩
  refine wpList_plain hg fun Kn hKn => ?_
  obtain ⟨v, h1, h2⟩ := index_ok hT ht he ho (hr.ev_at hx) (hr.ev_at hi) hrow
  exact upon_value h1 (hKn _ _ (hk.run ms _ w (hr.put h2 (dstOk_all hd)) Q hq))

/-! ### Guards -/
theorem yielded_of {ops : Array Oper} {a : Act} {j : Nat} {t : Tmp} {b : Bool} (hj : (ops[j]?).bind (·.dst) = some t) (h : a.tmps.getD t undef = .bool b) : yielded ops a.tmps j = some b := by
  unfold yielded
  rw [hj]
  simp only [Option.bind_some]
  cases ht : a.tmps[t]? with
  | none => simp [Array.getD_eq_getD_getElem?, ht, undef] at h
  | some v => simp [Array.getD_eq_getD_getElem?, ht] at h; rw [h]
theorem yielded_no {ops : Array Oper} {a : Act} {j : Nat} {t : Tmp} (hj : (ops[j]?).bind (·.dst) = some t) (h : a.tmps.getD t undef = .tuple #[]) : yielded ops a.tmps j = none := by
  unfold yielded
  rw [hj]
  simp only [Option.bind_some]
  cases ht : a.tmps[t]? with
  | none => rfl
  | some v => simp [Array.getD_eq_getD_getElem?, ht] at h; rw [h]

/-- An operation under a guard that holds: as without it. -/
theorem WO_on {j : Nat} {want b : Bool} {t : Tmp} (hg : o.guard = some (j, want)) (hj : (ops[j]?).bind (·.dst) = some t) (hv : s.get t = .lit (.bool b)) (hb : b = want) (h : WO P w0 A ops ({ o with guard := none } :: rest) s K) : WO P w0 A ops (o :: rest) s K := by
  refine ⟨fun ms a w hr Q hq => ?_⟩
  have hs := hr.slots t
  rw [hv] at hs
  obtain ⟨e, _⟩ := hs.lit_inv
  have hw : Region.wanted o (yielded ops a.tmps) = true := by simp [Region.wanted, hg, yielded_of hj e, hb]
  have hw' : Region.wanted { o with guard := none } (yielded ops a.tmps) = true := rfl
  have := h.run ms a w hr Q hq
  unfold wpList at this ⊢
  rw [if_pos hw]
  rw [if_pos hw'] at this
  exact this
theorem WO_off {j : Nat} {want b : Bool} {t : Tmp} (hg : o.guard = some (j, want)) (hj : (ops[j]?).bind (·.dst) = some t) (hv : s.get t = .lit (.bool b)) (hb : b = !want) (hd : dstOk s o.dst = true) (h : WO P w0 A ops rest (s.put o.dst (.tup [])) K) : WO P w0 A ops (o :: rest) s K := by
  refine ⟨fun ms a w hr Q hq => ?_⟩
  have hs := hr.slots t
  rw [hv] at hs
  obtain ⟨e, _⟩ := hs.lit_inv
  have hw : Region.wanted o (yielded ops a.tmps) = false := by simp [Region.wanted, hg, yielded_of hj e, hb]
  exact wpList_skip hw (h.run ms _ w (hr.put (.tup (us := []) .nil) (dstOk_all hd)) Q hq)
theorem WO_out {j : Nat} {want : Bool} {t : Tmp} (hg : o.guard = some (j, want)) (hj : (ops[j]?).bind (·.dst) = some t) (hv : s.get t = .tup []) (hd : dstOk s o.dst = true) (h : WO P w0 A ops rest (s.put o.dst (.tup [])) K) : WO P w0 A ops (o :: rest) s K := by
  refine ⟨fun ms a w hr Q hq => ?_⟩
  have hs := hr.slots t
  rw [hv] at hs
  obtain ⟨us, e, h2⟩ := hs.tup_inv
  cases h2
  have hw : Region.wanted o (yielded ops a.tmps) = false := by simp [Region.wanted, hg, yielded_no hj e]
  exact wpList_skip hw (h.run ms _ w (hr.put (.tup (us := []) .nil) (dstOk_all hd)) Q hq)

/-! ### The same rules, for states and operations that are written out -/
variable {n : Nat} {sl : List (Nat × D)} {hp : List Blk} {t : Tmp} {op : Op} {ty : TypeId} {pos : String} {after : Array Edge}

theorem R_pop {tab : Nat → Option TI} (hT : TabOk P tab) {c : Prop} {d : D} (h : pop tab hp (evD (look sl)) op = some (c, d)) (hd : Nat.blt t n = true) (hc : c) (hk : WO P w0 A ops rest ⟨n, (t, d) :: sl, hp⟩ K) :
    WO P w0 A ops (⟨some t, op, ty, pos, after, none⟩ :: rest) ⟨n, sl, hp⟩ K := WO_pop hT rfl h hd hc hk
theorem R_index {tab : Nat → Option TI} (hT : TabOk P tab) {t' : TypeId} {x i : Operand} {m : Nat} {xs : List (List D)} {j : Int} {r : List D} {e : TypeId} {agg : Bool} {size bytes : Nat} {zero : List Value}
    {k' : TK} {agg' : Bool} {bytes' : Nat} {zero' : List Value} (hx : evD (look sl) x = .sh m xs) (hi : evD (look sl) i = .lit (.int .i64 j)) (ht : tab t' = some ⟨.sl e, agg, size, bytes, zero⟩) (he : tab e = some ⟨k', agg', m, bytes', zero'⟩)
    (hd : Nat.blt t n = true) (hrow : RowAt xs j r) (hk : WO P w0 A ops rest ⟨n, (t, .sptr r) :: sl, hp⟩ K) : WO P w0 A ops (⟨some t, .indexAddr t' x i, ty, pos, after, none⟩ :: rest) ⟨n, sl, hp⟩ K :=
  WO_index hT rfl rfl hx hi ht he hd hrow hk
/-- A guard: both ways. -/
theorem R_guardT {j : Nat} {b : Bool} {u : Tmp} (hj : (ops[j]?).bind (·.dst) = some u) (hv : look sl u = .lit (.bool b)) (hd : Nat.blt t n = true)
    (ht : b = true → WO P w0 A ops (⟨some t, op, ty, pos, after, none⟩ :: rest) ⟨n, sl, hp⟩ K) (hf : b = false → WO P w0 A ops rest ⟨n, (t, .tup []) :: sl, hp⟩ K) : WO P w0 A ops (⟨some t, op, ty, pos, after, some (j, true)⟩ :: rest) ⟨n, sl, hp⟩ K := by
  cases b
  · exact WO_off rfl hj hv rfl hd (hf rfl)
  · exact WO_on rfl hj hv rfl (ht rfl)
theorem R_guardF {j : Nat} {b : Bool} {u : Tmp} (hj : (ops[j]?).bind (·.dst) = some u) (hv : look sl u = .lit (.bool b)) (hd : Nat.blt t n = true)
    (ht : b = false → WO P w0 A ops (⟨some t, op, ty, pos, after, none⟩ :: rest) ⟨n, sl, hp⟩ K) (hf : b = true → WO P w0 A ops rest ⟨n, (t, .tup []) :: sl, hp⟩ K) : WO P w0 A ops (⟨some t, op, ty, pos, after, some (j, false)⟩ :: rest) ⟨n, sl, hp⟩ K := by
  cases b
  · exact WO_on rfl hj hv rfl (ht rfl)
  · exact WO_off rfl hj hv rfl hd (hf rfl)
theorem R_on {dst : Option Tmp} {j : Nat} {want b : Bool} {u : Tmp} (hj : (ops[j]?).bind (·.dst) = some u) (hv : look sl u = .lit (.bool b)) (hb : b = want) (h : WO P w0 A ops (⟨dst, op, ty, pos, after, none⟩ :: rest) ⟨n, sl, hp⟩ K) :
    WO P w0 A ops (⟨dst, op, ty, pos, after, some (j, want)⟩ :: rest) ⟨n, sl, hp⟩ K := WO_on rfl hj hv hb h
theorem R_off {j : Nat} {want b : Bool} {u : Tmp} (hj : (ops[j]?).bind (·.dst) = some u) (hv : look sl u = .lit (.bool b)) (hb : b = !want) (hd : Nat.blt t n = true) (h : WO P w0 A ops rest ⟨n, (t, .tup []) :: sl, hp⟩ K) :
    WO P w0 A ops (⟨some t, op, ty, pos, after, some (j, want)⟩ :: rest) ⟨n, sl, hp⟩ K := WO_off rfl hj hv hb hd h
theorem R_out {j : Nat} {want : Bool} {u : Tmp} (hj : (ops[j]?).bind (·.dst) = some u) (hv : look sl u = .tup []) (hd : Nat.blt t n = true) (h : WO P w0 A ops rest ⟨n, (t, .tup []) :: sl, hp⟩ K) :
    WO P w0 A ops (⟨some t, op, ty, pos, after, some (j, want)⟩ :: rest) ⟨n, sl, hp⟩ K := WO_out rfl hj hv hd h
theorem R_cond {c : Operand} {x y : Code} {b : Bool} (hc : evD (look sl) c = .lit (.bool b)) (ht : b = true → W P w0 A x ⟨n, sl, hp⟩ Q) (hf : b = false → W P w0 A y ⟨n, sl, hp⟩ Q) : W P w0 A (.cond c x y) ⟨n, sl, hp⟩ Q := W_cond hc ht hf
theorem R_condT {c : Operand} {x y : Code} {b : Bool} (hc : evD (look sl) c = .lit (.bool b)) (hb : b = true) (ht : W P w0 A x ⟨n, sl, hp⟩ Q) : W P w0 A (.cond c x y) ⟨n, sl, hp⟩ Q := W_cond hc (fun _ => ht) fun h => by rw [hb] at h; exact Bool.noConfusion h
theorem R_condF {c : Operand} {x y : Code} {b : Bool} (hc : evD (look sl) c = .lit (.bool b)) (hb : b = false) (ht : W P w0 A y ⟨n, sl, hp⟩ Q) : W P w0 A (.cond c x y) ⟨n, sl, hp⟩ Q := W_cond hc (fun h => by rw [hb] at h; exact Bool.noConfusion h) fun _ => ht
end
end Go.Proofs.YtcpjhpjlcgcigaaGreatDoor
namespace Go.Proofs.YtcpjhpjlcgcigaaGreatDoor
open Go.ChangeShapes Go.WideShapes Go.ChangeAt Go.RowKit

def Blk.isArr : Blk → Bool
  | .arr _ _ _ _ => true
  | .fr _ _ => true
  | .cust _ => true
  | _ => false
def Blk.isDeep : Blk → Bool
  | .arr _ _ _ d => d
  | .fr _ _ => true
  | .cust _ => true
  | _ => false

/-- What a call hands back: the value d, over new memory rh. -/
structure Post (w : World) (A : Nat → Prop) (d : D) (rh : List Blk) (ms : List Ent) (v : Value) (w' : World) : Prop where
  ext : Ext w w'
  len : ms.length = rh.length
  nodup : (owned ms).Nodup
  range : ∀ k ∈ owned ms, w.heap.size ≤ k ∧ k < w'.heap.size
  ents : ∀ (i : Nat) (b : Blk) (e : Ent), rh[i]? = some b → ms[i]? = some e → EntR w.heap.size ms w' (OkB w.heap.size A ms w') b e
  val : VX ms w' (OkB w.heap.size A ms w') d v

/-- The function f, called with values that read as ds, in whatever world, returns d. -/
structure Fn (P : Program) (f : FuncId) (ds : List D) (d : D) (rh : List Blk) : Prop where
  plain : ∀ args w, (callFunc f args).run P w = .ok (.enter f args) w
  arrs : rh.all Blk.isArr = true
  calls : ∀ (A : Nat → Prop) (w : World) (us : List Value), (∀ k, A k → k < w.heap.size) → VXs [] w A ds us → Calls P f us.toArray w fun e w' => ∃ v ms, e = .returned v ∧ Post w A d rh ms v w'

/-! ### Values without entries -/
mutual
def D.plain : D → Bool
  | .own _ => false
  | .vec _ _ => false
  | .ptr _ _ => false
  | .pin _ _ _ => false
  | .eptr _ _ _ _ => false
  | .part _ _ _ _ => false
  | .agg ds => D.plainL ds
  | .tup ds => D.plainL ds
  | .fn _ ds => D.plainL ds
  | _ => true
def D.plainL : List D → Bool
  | [] => true
  | d :: ds => match d.plain with | true => D.plainL ds | false => false
end
mutual
theorem D.plain_uses : ∀ {d : D} (i : Nat), d.plain = true → d.uses i = false
  | .no, _, _ => rfl
  | .lit _, _, _ => rfl
  | .nil, _, _ => rfl
  | .sh _ _, _, _ => rfl
  | .sptr _, _, _ => rfl
  | .old _ _ _, _, _ => rfl
  | .val _, _, _ => rfl
  | .tag _ _, _, _ => rfl
  | .own _, _, h => by simp [D.plain] at h
  | .vec _ _, _, h => by simp [D.plain] at h
  | .ptr _ _, _, h => by simp [D.plain] at h
  | .pin _ _ _, _, h => by simp [D.plain] at h
  | .eptr _ _ _ _, _, h => by simp [D.plain] at h
  | .part _ _ _ _, _, h => by simp [D.plain] at h
  | .agg ds, i, h => by rw [D.plain] at h; rw [D.uses]; exact D.plainL_uses i h
  | .tup ds, i, h => by rw [D.plain] at h; rw [D.uses]; exact D.plainL_uses i h
  | .fn _ ds, i, h => by rw [D.plain] at h; rw [D.uses]; exact D.plainL_uses i h
theorem D.plainL_uses : ∀ {ds : List D} (i : Nat), D.plainL ds = true → D.usesL i ds = false
  | [], _, _ => rfl
  | d :: ds, i, h => by
    rw [D.plainL] at h
    cases hd : d.plain
    · rw [hd] at h; exact Bool.noConfusion h
    · rw [hd] at h
      rw [D.usesL, D.plain_uses i hd, D.plainL_uses i h]; rfl
end

/-! ### Entries under other numbers -/
mutual
def D.shift (k : Nat) : D → D
  | .own i => .own (k + i)
  | .vec i len => .vec (k + i) len
  | .ptr i o => .ptr (k + i) o
  | .pin b i o => .pin b (k + i) o
  | .eptr i n j o => .eptr (k + i) n j o
  | .part i m lo hi => .part (k + i) m lo hi
  | .agg ds => .agg (D.shiftL k ds)
  | .tup ds => .tup (D.shiftL k ds)
  | .fn f ds => .fn f (D.shiftL k ds)
  | d => d
def D.shiftL (k : Nat) : List D → List D
  | [] => []
  | d :: ds => d.shift k :: D.shiftL k ds
end
mutual
theorem VX.shift {ms ms' : List Ent} {w w' : World} {Ok Ok' : Nat → Prop} (k : Nat) (hk : ∀ k, Ok k → w'.heap[k]? = w.heap[k]? ∧ Ok' k) (hm : ∀ (i : Nat) (e : Ent), ms[i]? = some e → ms'[k + i]? = some e) : ∀ {d : D} {u : Value}, VX ms w Ok d u → VX ms' w' Ok' (d.shift k) u
  | _, _, .no => .no
  | _, _, .rd (d := .lit _) h h' => .rd (h.keep fun k m => (hk k (h' k m)).1) fun k m => (hk k (h' k m)).2
  | _, _, .rd (d := .nil) h h' => .rd (h.keep fun k m => (hk k (h' k m)).1) fun k m => (hk k (h' k m)).2
  | _, _, .rd (d := .tag _ _) h h' => .rd (h.keep fun k m => (hk k (h' k m)).1) fun k m => (hk k (h' k m)).2
  | _, _, .rd (d := .sh _ _) h h' => .rd (h.keep fun k m => (hk k (h' k m)).1) fun k m => (hk k (h' k m)).2
  | _, _, .own h h' => .own (hm _ _ h) h'
  | _, _, .vec h h' => .vec (hm _ _ h) h'
  | _, _, .ptr h h' => .ptr (hm _ _ h) h'
  | _, _, .pin h h' => .pin (hm _ _ h) h'
  | _, _, .eptr h h' => .eptr (hm _ _ h) h'
  | _, _, .part h h' h2 => .part (hm _ _ h) h' h2
  | _, _, .sptr h h1 h2 h3 => .sptr (h.keep fun k m => (hk k (h2 k m)).1) (hk _ h1).2 (fun k m => (hk k (h2 k m)).2) fun j hj => by rw [cell_of_heap (hk _ h1).1]; exact h3 j hj
  | _, _, .agg h => by rw [D.shift]; exact .agg (VXs.shift k hk hm h)
  | _, _, .tup h => by rw [D.shift]; exact .tup (VXs.shift k hk hm h)
  | _, _, .fn h => by rw [D.shift]; exact .fn (VXs.shift k hk hm h)
  | _, _, .old h h' => .old h h'
  | _, _, .val => .val
theorem VXs.shift {ms ms' : List Ent} {w w' : World} {Ok Ok' : Nat → Prop} (k : Nat) (hk : ∀ k, Ok k → w'.heap[k]? = w.heap[k]? ∧ Ok' k) (hm : ∀ (i : Nat) (e : Ent), ms[i]? = some e → ms'[k + i]? = some e) : ∀ {ds : List D} {us : List Value}, VXs ms w Ok ds us → VXs ms' w' Ok' (D.shiftL k ds) us
  | _, _, .nil => .nil
  | _, _, .cons h h' => .cons (VX.shift k hk hm h) (VXs.shift k hk hm h')
end

section
variable {P : Program} {w0 w w' : World} {A A' : Nat → Prop} {s : St} {ms : List Ent} {a : Act}

theorem ownsRow_base {base base' : Nat} {e : TypeId} {size : Nat} {v : Value} {n : Nat} {xs : List Value} (h : w.ownsRow base e size v n xs) (hb : base' ≤ base) : w.ownsRow base' e size v n xs := by
  obtain ⟨h1, h2⟩ := h
  refine ⟨h1, ?_⟩
  rcases h2 with h2 | ⟨g, cap, cur, rfl, hg, r⟩
  · exact Or.inl h2
  · exact Or.inr ⟨g, cap, cur, rfl, by omega, r⟩

/-- Behind a call: its new memory becomes the caller's. -/
theorem Rel.called (h : Rel w0 A ms s a w) {d : D} {rh : List Blk} {mr : List Ent} {v : Value} (harr : rh.all Blk.isArr = true) (hA : (∀ k, A' k → OkB w0.heap.size A ms w k) ∨ rh.all Blk.isDeep = true)
    (hp : Post w A' d rh mr v w') : Rel w0 A (ms ++ mr) ⟨s.n, s.slots, s.heap ++ rh⟩ a w' := by
  have hb := h.ext.size
  refine h.grow hp.ext mr rh hp.len hp.nodup hp.range fun i b e hi he => ?_
  have hE := hp.ents i b e hi he
  have hab := (List.all_eq_true.1 harr) b (List.mem_of_getElem? hi)
  cases b with
  | gone => simp [Blk.isArr] at hab
  | cells t ds => simp [Blk.isArr] at hab
  | fr n xs => exact hE
  | cust R => exact hE
  | arr t n xs deep =>
    obtain ⟨us, bs, h1, h2, h3, h4, h5⟩ := hE
    refine ⟨us, bs, ownsRow_base h1 hb, h2, h3, h4, ?_⟩
    cases deep with
    | true => exact h5
    | false =>
      rcases hA with hA | hA
      · refine ⟨h5.1, fun k hk => ?_⟩
        obtain ⟨k1, k2, k3⟩ := h5.2 k hk
        refine ⟨k1, ?_, ?_⟩
        · rcases k2 with k2 | k2
          · exact Or.inl (by omega)
          · exact (hA k k2).2.1
        · rw [tops_append, List.mem_append]
          rintro (k4 | k4)
          · rcases k2 with k2 | k2
            · have := h.range k (tops_owned k4); omega
            · exact (hA k k2).2.2 k4
          · exact k3 k4
      · have := (List.all_eq_true.1 hA) _ (List.mem_of_getElem? hi)
        simp [Blk.isDeep] at this

theorem Rel.called_val (h : Rel w0 A ms s a w) {d : D} {rh : List Blk} {mr : List Ent} {v : Value} (hA : ∀ k, A' k → OkB w0.heap.size A ms w k) (hp : Post w A' d rh mr v w') : VX (ms ++ mr) w' (OkB w0.heap.size A (ms ++ mr) w') (d.shift s.heap.length) v := by
  have hb := h.ext.size
  refine hp.val.shift s.heap.length ?_ ?_
  · intro k ⟨k1, k2, k3⟩
    refine ⟨rfl, k1, ?_, ?_⟩
    · rcases k2 with k2 | k2
      · exact Or.inl (by omega)
      · exact (hA k k2).2.1
    · rw [tops_append, List.mem_append]
      rintro (k4 | k4)
      · rcases k2 with k2 | k2
        · have := h.range k (tops_owned k4); omega
        · exact (hA k k2).2.2 k4
      · exact k3 k4
  · intro i e he
    rw [List.getElem?_append_right (by rw [h.len]; omega), h.len]
    rw [Nat.add_sub_cancel_left]; exact he

/-! ### Calls -/
variable {ops : Array Oper} {rest : List Oper} {o : Oper} {K : St → Prop}

theorem enter_call {a : Act} {w : World} {f : FuncId} {args : Array Value} {Kn : Act → World → Prop} {Q' : Exit → Act → World → Prop} (h : (execOp a.eval o).run P w = .ok (.enter f args) w) (hc : Calls P f args w fun e w' => ∃ v, e = .returned v ∧ Kn (a.put o.dst v) w') : o.wp P a w Kn Q' := by
  unfold Oper.wp; rw [h]
  refine hc.mono ?_
  rintro e w' ⟨v, rfl, hk⟩
  exact hk

theorem run_call {f : FuncId} {fo : Operand} {args : Array Operand} {tys : Array TypeId} {ρ' : Operand → Value} {caps : List Value} (ho : o.op = .call ⟨.value fo, args, tys⟩) (hp : ∀ args w, (callFunc f args).run P w = .ok (.enter f args) w) (hf : ρ' fo = .func (.func f) #[] caps.toArray) :
    (execOp ρ' o).run P w = .ok (.enter f ((args.toList.map ρ') ++ caps).toArray) w := by
  simp only [execOp, ho, resolve, hf, Deferred.ofValue]
  have e : (args.map ρ' ++ caps.toArray) = ((args.toList.map ρ') ++ caps).toArray := by
    rw [← List.append_toArray, ← Array.toList_map, Array.toArray_toList]
  simp [invoke, e, hp]

theorem VXs.plain {Ok Ok' : Nat → Prop} {ds : List D} {us : List Value} (h : VXs ms w Ok ds us) (hp : D.plainL ds = true) (hk : ∀ k, Ok k → Ok' k) : VXs [] w Ok' ds us :=
  VXs.mono (fun k hk' => ⟨rfl, hk k hk'⟩) h fun i e hu _ => by rw [D.plainL_uses i hp] at hu; exact Bool.noConfusion hu

/-- A call of a function by its contract; the arguments are read alone. -/
theorem WO_call {f : FuncId} {fo : Operand} {args : Array Operand} {tys : Array TypeId} {ds caps : List D} {d : D} {rh : List Blk} (hg : o.guard = none) (ho : o.op = .call ⟨.value fo, args, tys⟩) (hf : evD s.get fo = .fn f caps)
    (hds : mapK (evD s.get) args.toList (fun l => some (l ++ caps)) = some ds) (hp : D.plainL ds = true) (hd : dstOk s o.dst = true) (hF : Fn P f ds d rh)
    (hk : WO P w0 A ops rest (St.put ⟨s.n, s.slots, s.heap ++ rh⟩ o.dst (d.shift s.heap.length)) K) : WO P w0 A ops (o :: rest) s K := by
  refine ⟨fun ms a w hr Q hq => ?_⟩
  refine wpList_plain hg fun Kn hKn => ?_
  obtain ⟨cs, e1, hcs⟩ := (hr.ev_at hf).fn_inv
  have hds := mapK_eq hds
  simp only [Option.some.injEq] at hds
  subst hds
  have hv : VXs ms w (OkB w0.heap.size A ms w) (args.toList.map (evD s.get) ++ caps) (args.toList.map a.eval ++ cs) := (VXs.of_map fun x _ => hr.ev x).append hcs
  refine enter_call (run_call ho hF.plain e1) ((hF.calls (OkB w0.heap.size A ms w) w _ (fun k hk => hk.1) (hv.plain hp fun _ h => h)).mono ?_)
  rintro e w' ⟨v, mr, rfl, hpost⟩
  refine ⟨v, rfl, hKn _ _ (hk.run _ _ w' (Rel.put (hr.called hF.arrs (Or.inl fun _ h => h) hpost) (hr.called_val (fun _ h => h) hpost) (dstOk_all hd)) Q hq)⟩

/-! ### New variables -/
theorem WO_box {t : TypeId} {x : Operand} {ds : List D} (hg : o.guard = none) (ho : o.op = .box t x) (hx : cellsD (evD s.get x) = some ds) (hd : dstOk s o.dst = true)
    (hk : WO P w0 A ops rest (St.put ⟨s.n, s.slots, s.heap ++ [.cells t ds]⟩ o.dst (.ptr s.heap.length 0)) K) : WO P w0 A ops (o :: rest) s K := by
  refine ⟨fun ms a w hr Q hq => ?_⟩
  refine wpList_plain hg fun Kn hKn => ?_
  obtain ⟨us, e1, hv⟩ := cellsD_ok (hr.ev x) hx
  have hb := hr.box (t := t) hv
  have hrun : (execOp a.eval o).run P w = .ok (.value (.pointer (some ⟨w.heap.size, 0, none⟩))) (w.alloc (.cells us.toArray t (0, 0))) := by
    simp only [execOp, ho, Instr.box, newVar, newRow, newObj, e1]; rfl
  refine upon_value hrun (hKn _ _ (hk.run _ _ _ (Rel.put hb (.ptr (e := ⟨.pointer (some ⟨w.heap.size, 0, none⟩), some w.heap.size, []⟩) ?_ rfl) (dstOk_all hd)) Q hq))
  rw [List.getElem?_append_right (by rw [hr.len]; exact Nat.le_refl _), hr.len]; simp

theorem constK_list : ∀ {vs : List Value} {r : List D}, constK vs (fun l => some l) = some r → VXs ms w A r vs
  | vs, r, h => by
    have gen : ∀ (vs : List Value) (k : List D → Option (List D)) (r : List D), constK vs k = some r → ∃ ds, VXs ms w A ds vs ∧ k ds = some r := by
      intro vs
      induction vs with
      | nil => intro k r h; exact ⟨[], .nil, h⟩
      | cons v vs ih =>
        intro k r h
        obtain ⟨ds, h1, h2⟩ := ih _ _ (forceK_eq h)
        exact ⟨_, .cons (constD_ok v) h1, h2⟩
    obtain ⟨ds, h1, h2⟩ := gen _ _ _ h
    simp only [Option.some.injEq] at h2
    subst h2; exact h1

theorem WO_alloc {tab : Nat → Option TI} (hT : TabOk P tab) {t : TypeId} {ds : List D} {k : TK} {agg : Bool} {size bytes : Nat} {zero : List Value} (hg : o.guard = none) (ho : o.op = .alloc t) (ht : tab t = some ⟨k, agg, size, bytes, zero⟩) (hz : constK zero (fun l => some l) = some ds) (hd : dstOk s o.dst = true)
    (hk : WO P w0 A ops rest (St.put ⟨s.n, s.slots, s.heap ++ [.cells t ds]⟩ o.dst (.ptr s.heap.length 0)) K) : WO P w0 A ops (o :: rest) s K := by
  refine ⟨fun ms a w hr Q hq => ?_⟩
  refine wpList_plain hg fun Kn hKn => ?_
  obtain ⟨inf, td, z, h1, h2, h3, h4, h5, h6, h7, h8⟩ := hT.get ht
  have hb := hr.box (t := t) (constK_list hz)
  have hz8 : z.cells = zero.toArray := by rw [← h8]
  have hrun : (execOp a.eval o).run P w = .ok (.value (.pointer (some ⟨w.heap.size, 0, none⟩))) (w.alloc (.cells zero.toArray t (0, 0))) := by
    simp only [execOp, ho, Instr.alloc, Sem.run_bind, run_zero h1 h3, Result.andThen, newVar, newRow, newObj, hz8]; rfl
  refine upon_value hrun (hKn _ _ (hk.run _ _ _ (Rel.put hb (.ptr (e := ⟨.pointer (some ⟨w.heap.size, 0, none⟩), some w.heap.size, []⟩) ?_ rfl) (dstOk_all hd)) Q hq))
  rw [List.getElem?_append_right (by rw [hr.len]; exact Nat.le_refl _), hr.len]; simp

variable {n : Nat} {sl : List (Nat × D)} {hp : List Blk} {x : Operand} {dst : Tmp} {ty : TypeId} {pos : String} {after : Array Edge}
theorem R_call {f : FuncId} {fo : Operand} {args : Array Operand} {tys : Array TypeId} {ds caps : List D} {d : D} {rh : List Blk} (hf : evD (look sl) fo = .fn f caps)
    (hds : mapK (evD (look sl)) args.toList (fun l => some (l ++ caps)) = some ds) (hp' : D.plainL ds = true) (hd : Nat.blt dst n = true) (hF : Fn P f ds d rh)
    (hk : WO P w0 A ops rest ⟨n, (dst, d.shift hp.length) :: sl, hp ++ rh⟩ K) : WO P w0 A ops (⟨some dst, .call ⟨.value fo, args, tys⟩, ty, pos, after, none⟩ :: rest) ⟨n, sl, hp⟩ K := WO_call rfl rfl hf hds hp' hd hF hk
theorem R_box {t : TypeId} {ds : List D} (hx : cellsD (evD (look sl) x) = some ds) (hd : Nat.blt dst n = true)
    (hk : WO P w0 A ops rest ⟨n, (dst, .ptr hp.length 0) :: sl, hp ++ [.cells t ds]⟩ K) : WO P w0 A ops (⟨some dst, .box t x, ty, pos, after, none⟩ :: rest) ⟨n, sl, hp⟩ K := WO_box rfl rfl hx hd hk
theorem R_alloc {tab : Nat → Option TI} (hT : TabOk P tab) {t : TypeId} {ds : List D} {k : TK} {agg : Bool} {size bytes : Nat} {zero : List Value} (ht : tab t = some ⟨k, agg, size, bytes, zero⟩) (hz : constK zero (fun l => some l) = some ds) (hd : Nat.blt dst n = true)
    (hk : WO P w0 A ops rest ⟨n, (dst, .ptr hp.length 0) :: sl, hp ++ [.cells t ds]⟩ K) : WO P w0 A ops (⟨some dst, .alloc t, ty, pos, after, none⟩ :: rest) ⟨n, sl, hp⟩ K := WO_alloc hT rfl rfl ht hz hd hk
end
end Go.Proofs.YtcpjhpjlcgcigaaGreatDoor
