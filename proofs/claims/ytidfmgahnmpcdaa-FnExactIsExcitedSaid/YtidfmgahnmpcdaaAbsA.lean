/- Symbolic states: what slots and memory of a call hold, said by plain data; and that what is not touched stays. No condition. -/
import Derived.Test.YtidfmgahnmpcdaaLibb
set_option linter.unusedSimpArgs false
set_option linter.unusedVariables false
namespace Go.Proofs.Ytidfmgahnmpcdaa
open Go.ChangeShapes Go.WideShapes Go.ChangeAt Go.RowKit

/-- What is known of a value: nothing; a scalar; the nil slice; a slice that is read alone (cells an element, the elements); the slice of an entry; a slice over a variable's cells; an address in an entry; the same by element and cell; an address of cells that are read alone; a struct; a tuple; a function; a value that an older world holds in blocks that stay; a value that is known exactly. -/
inductive D where
  | no
  | lit (v : Value)
  | nil
  | sh (n : Nat) (xs : List (List D))
  | own (i : Nat)
  | vec (i len : Nat)
  | ptr (i o : Nat)
  | eptr (i n : Nat) (k : Int) (o : Nat)
  | sptr (ds : List D)
  | agg (ds : List D)
  | tup (ds : List D)
  | fn (f : FuncId) (ds : List D)
  | old (w : World) (A : Nat → Prop) (d : D)
  | val (v : Value)
instance : Inhabited D := ⟨.no⟩

/-- Memory of the call's own: given away; a variable; an array (element type, cells an element, the elements, whether all behind them is the call's own too); a slice of which all is the call's own, as it came from a call; whatever else, said by a statement on its blocks. -/
inductive Blk where
  | gone
  | cells (t : TypeId) (ds : List D)
  | arr (t : TypeId) (n : Nat) (xs : List (List D)) (deep : Bool)
  | fr (n : Nat) (xs : List (List D))
  | cust (R : World → Value → Option Nat → List Nat → Prop)

def litOk : Value → Prop
  | .int k n => k.wrap n = n
  | .bool _ => True
  | .string s => s.size ≤ 9223372036854775807
  | _ => False

mutual
inductive VR (w : World) : D → Value → List Nat → Prop
  | lit {v : Value} : litOk v → VR w (.lit v) v []
  | nil : VR w .nil (.slice none 0 0) []
  | shnil {n : Nat} {a : Option Addr} {cap : Nat} : cap ≤ 9223372036854775807 → (a = none → cap = 0) → VR w (.sh n []) (.slice a 0 cap) []
  | sh {n : Nat} {xs : List (List D)} {b o cap : Nat} {us : List Value} {bs : List Nat} : (∀ r ∈ xs, r.length = n) → xs.length ≤ cap → cap ≤ 9223372036854775807 → b < w.heap.size → VRs w xs.flatten us bs →
      (∀ j, j < us.length → w.cell? ⟨b, o + j, none⟩ = us[j]?) → VR w (.sh n xs) (.slice (some ⟨b, o, none⟩) xs.length cap) (b :: bs)
inductive VRs (w : World) : List D → List Value → List Nat → Prop
  | nil : VRs w [] [] []
  | cons {d : D} {u : Value} {bs : List Nat} {ds : List D} {us : List Value} {bs' : List Nat} : VR w d u bs → VRs w ds us bs' → VRs w (d :: ds) (u :: us) (bs ++ bs')
end

mutual
theorem VR.inb {w : World} : ∀ {d : D} {u : Value} {bs : List Nat}, VR w d u bs → ∀ k ∈ bs, k < w.heap.size
  | _, _, _, .lit _ => by simp
  | _, _, _, .nil => by simp
  | _, _, _, .shnil _ _ => by simp
  | _, _, _, .sh _ _ _ hb h _ => by
    intro k hk
    rcases List.mem_cons.1 hk with rfl | hk
    · exact hb
    · exact VRs.inb h k hk
theorem VRs.inb {w : World} : ∀ {ds : List D} {us : List Value} {bs : List Nat}, VRs w ds us bs → ∀ k ∈ bs, k < w.heap.size
  | _, _, _, .nil => by simp
  | _, _, _, .cons h h' => by
    intro k hk
    rcases List.mem_append.1 hk with hk | hk
    · exact VR.inb h k hk
    · exact VRs.inb h' k hk
end

mutual
theorem VR.keep {w w' : World} : ∀ {d : D} {u : Value} {bs : List Nat}, VR w d u bs → (∀ k ∈ bs, w'.heap[k]? = w.heap[k]?) → VR w' d u bs
  | _, _, _, .lit h, _ => .lit h
  | _, _, _, .nil, _ => .nil
  | _, _, _, .shnil h h', _ => .shnil h h'
  | _, _, _, .sh h1 h2 h3 hb h hc, hk => by
    have e := hk _ (List.mem_cons_self ..)
    refine .sh h1 h2 h3 ?_ (VRs.keep h fun k m => hk k (List.mem_cons_of_mem _ m)) (fun j hj => by rw [cell_of_heap e]; exact hc j hj)
    exact (Array.getElem?_eq_some_iff.1 (e.trans (Array.getElem?_eq_getElem hb))).1
theorem VRs.keep {w w' : World} : ∀ {ds : List D} {us : List Value} {bs : List Nat}, VRs w ds us bs → (∀ k ∈ bs, w'.heap[k]? = w.heap[k]?) → VRs w' ds us bs
  | _, _, _, .nil, _ => .nil
  | _, _, _, .cons h h', hk => .cons (VR.keep h fun k m => hk k (List.mem_append_left _ m)) (VRs.keep h' fun k m => hk k (List.mem_append_right _ m))
end

theorem VRs.len {w : World} : ∀ {ds : List D} {us : List Value} {bs : List Nat}, VRs w ds us bs → us.length = ds.length
  | _, _, _, .nil => rfl
  | _, _, _, .cons _ h' => by simp [VRs.len h']

theorem VRs.append {w : World} : ∀ {ds : List D} {us : List Value} {bs : List Nat} {ds' : List D} {us' : List Value} {bs' : List Nat}, VRs w ds us bs → VRs w ds' us' bs' → VRs w (ds ++ ds') (us ++ us') (bs ++ bs')
  | _, _, _, _, _, _, .nil, h' => h'
  | _, _, _, _, _, _, .cons h h1, h' => by rw [List.append_assoc]; exact .cons h (VRs.append h1 h')

/-- A part of a row of cells. -/
theorem VRs.part {w : World} : ∀ {ds : List D} {us : List Value} {bs : List Nat} (i n : Nat), VRs w ds us bs → ∃ bs', VRs w ((ds.drop i).take n) ((us.drop i).take n) bs' ∧ ∀ k ∈ bs', k ∈ bs
  | _, _, _, _, _, .nil => ⟨[], by simp; exact .nil, by simp⟩
  | _, _, _, 0, 0, .cons _ _ => ⟨[], by simp; exact .nil, by simp⟩
  | _, _, _, 0, n + 1, .cons h h' => by
    obtain ⟨bs', h1, h2⟩ := VRs.part 0 n h'
    refine ⟨_, .cons h (by simpa using h1), fun k hk => ?_⟩
    rcases List.mem_append.1 hk with hk | hk
    · exact List.mem_append_left _ hk
    · exact List.mem_append_right _ (h2 k hk)
  | _, _, _, i + 1, n, .cons _ h' => by
    obtain ⟨bs', h1, h2⟩ := VRs.part i n h'
    exact ⟨bs', by simpa using h1, fun k hk => List.mem_append_right _ (h2 k hk)⟩

theorem VRs.get {w : World} {ds : List D} {us : List Value} {bs : List Nat} (h : VRs w ds us bs) {i : Nat} {d : D} (hd : ds[i]? = some d) : ∃ u bs', us[i]? = some u ∧ VR w d u bs' ∧ ∀ k ∈ bs', k ∈ bs := by
  obtain ⟨bs', h1, h2⟩ := h.part i 1
  have hi : i < ds.length := (List.getElem?_eq_some_iff.1 hd).1
  have hu : i < us.length := by rw [h.len]; exact hi
  have e1 : (ds.drop i).take 1 = [d] := by rw [List.drop_eq_getElem_cons hi]; simp [(List.getElem?_eq_some_iff.1 hd).2]
  have e2 : (us.drop i).take 1 = [us[i]] := by rw [List.drop_eq_getElem_cons hu, List.take_succ_cons, List.take_zero]
  rw [e1, e2] at h1
  cases h1 with
  | cons h3 h4 => cases h4; exact ⟨us[i], _, by simp [hu], h3, fun k hk => h2 k (by simpa using hk)⟩

/-- An entry's place: its value, the block of its own cells, the blocks behind its elements that are the call's own. -/
structure Ent where
  v : Value
  top : Option Nat
  nest : List Nat

mutual
inductive VX (ms : List Ent) (w : World) (Ok : Nat → Prop) : D → Value → Prop
  | no {u : Value} : VX ms w Ok .no u
  | rd {d : D} {u : Value} {bs : List Nat} : VR w d u bs → (∀ k ∈ bs, Ok k) → VX ms w Ok d u
  | own {i : Nat} {e : Ent} : ms[i]? = some e → (∃ a n c, e.v = .slice a n c) → VX ms w Ok (.own i) e.v
  | vec {i len b : Nat} {e : Ent} : ms[i]? = some e → e.top = some b → VX ms w Ok (.vec i len) (.slice (some ⟨b, 0, none⟩) len len)
  | ptr {i o b : Nat} {e : Ent} : ms[i]? = some e → e.top = some b → VX ms w Ok (.ptr i o) (.pointer (some ⟨b, o, none⟩))
  | eptr {i o b n : Nat} {k : Int} {e : Ent} : ms[i]? = some e → e.top = some b → VX ms w Ok (.eptr i n k o) (.pointer (some ⟨b, k.toNat * n + o, none⟩))
  | sptr {ds : List D} {us : List Value} {b o : Nat} {bs : List Nat} : VRs w ds us bs → Ok b → (∀ k ∈ bs, Ok k) → (∀ j, j < us.length → w.cell? ⟨b, o + j, none⟩ = us[j]?) → VX ms w Ok (.sptr ds) (.pointer (some ⟨b, o, none⟩))
  | agg {ds : List D} {us : List Value} : VXs ms w Ok ds us → VX ms w Ok (.agg ds) (.agg us.toArray)
  | tup {ds : List D} {us : List Value} : VXs ms w Ok ds us → VX ms w Ok (.tup ds) (.tuple us.toArray)
  | fn {f : FuncId} {ds : List D} {us : List Value} : VXs ms w Ok ds us → VX ms w Ok (.fn f ds) (.func (.func f) #[] us.toArray)
  | old {wo : World} {A : Nat → Prop} {d : D} {u : Value} {bs : List Nat} : VR wo d u bs → (∀ k ∈ bs, A k) → VX ms w Ok (.old wo A d) u
  | val {u : Value} : VX ms w Ok (.val u) u
inductive VXs (ms : List Ent) (w : World) (Ok : Nat → Prop) : List D → List Value → Prop
  | nil : VXs ms w Ok [] []
  | cons {d : D} {u : Value} {ds : List D} {us : List Value} : VX ms w Ok d u → VXs ms w Ok ds us → VXs ms w Ok (d :: ds) (u :: us)
end

mutual
def D.uses (i : Nat) : D → Bool
  | .own j => j == i
  | .vec j _ => j == i
  | .ptr j _ => j == i
  | .eptr j _ _ _ => j == i
  | .agg ds => D.usesL i ds
  | .tup ds => D.usesL i ds
  | .fn _ ds => D.usesL i ds
  | _ => false
def D.usesL (i : Nat) : List D → Bool
  | [] => false
  | d :: ds => d.uses i || D.usesL i ds
end

mutual
/-- What stays: the entries that are named, and the cells that may be read. -/
theorem VX.mono {ms ms' : List Ent} {w w' : World} {Ok Ok' : Nat → Prop} (hk : ∀ k, Ok k → w'.heap[k]? = w.heap[k]? ∧ Ok' k) : ∀ {d : D} {u : Value}, VX ms w Ok d u → (∀ (i : Nat) (e : Ent), d.uses i = true → ms[i]? = some e → ms'[i]? = some e) → VX ms' w' Ok' d u
  | _, _, .no, _ => .no
  | _, _, .rd h h', _ => .rd (h.keep fun k m => (hk k (h' k m)).1) fun k m => (hk k (h' k m)).2
  | _, _, .own h h', hm => .own (hm _ _ (by simp [D.uses]) h) h'
  | _, _, .vec h h', hm => .vec (hm _ _ (by simp [D.uses]) h) h'
  | _, _, .ptr h h', hm => .ptr (hm _ _ (by simp [D.uses]) h) h'
  | _, _, .eptr h h', hm => .eptr (hm _ _ (by simp [D.uses]) h) h'
  | _, _, .sptr h h1 h2 h3, _ => .sptr (h.keep fun k m => (hk k (h2 k m)).1) (hk _ h1).2 (fun k m => (hk k (h2 k m)).2) fun j hj => by rw [cell_of_heap (hk _ h1).1]; exact h3 j hj
  | _, _, .agg h, hm => .agg (VXs.mono hk h fun i e hu => hm i e (by simpa [D.uses] using hu))
  | _, _, .tup h, hm => .tup (VXs.mono hk h fun i e hu => hm i e (by simpa [D.uses] using hu))
  | _, _, .fn h, hm => .fn (VXs.mono hk h fun i e hu => hm i e (by simpa [D.uses] using hu))
  | _, _, .old h h', _ => .old h h'
  | _, _, .val, _ => .val
theorem VXs.mono {ms ms' : List Ent} {w w' : World} {Ok Ok' : Nat → Prop} (hk : ∀ k, Ok k → w'.heap[k]? = w.heap[k]? ∧ Ok' k) : ∀ {ds : List D} {us : List Value}, VXs ms w Ok ds us → (∀ (i : Nat) (e : Ent), D.usesL i ds = true → ms[i]? = some e → ms'[i]? = some e) → VXs ms' w' Ok' ds us
  | _, _, .nil, _ => .nil
  | _, _, .cons h h', hm => .cons (VX.mono hk h fun i e hu => hm i e (by simp [D.usesL, hu])) (VXs.mono hk h' fun i e hu => hm i e (by simp [D.usesL, hu]))
end

theorem VXs.len {ms : List Ent} {w : World} {Ok : Nat → Prop} : ∀ {ds : List D} {us : List Value}, VXs ms w Ok ds us → us.length = ds.length
  | _, _, .nil => rfl
  | _, _, .cons _ h => by simp [VXs.len h]
theorem VXs.get {ms : List Ent} {w : World} {Ok : Nat → Prop} : ∀ {ds : List D} {us : List Value}, VXs ms w Ok ds us → ∀ {i : Nat} {d : D}, ds[i]? = some d → ∃ u, us[i]? = some u ∧ VX ms w Ok d u
  | _, _, .nil, _, _, h => by simp at h
  | _, _, .cons h _, 0, _, hd => by simp at hd; subst hd; exact ⟨_, by simp, h⟩
  | _, _, .cons _ h, i + 1, _, hd => by simp at hd; obtain ⟨u, h1, h2⟩ := VXs.get h hd; exact ⟨u, by simpa using h1, h2⟩
theorem VXs.append {ms : List Ent} {w : World} {Ok : Nat → Prop} : ∀ {ds : List D} {us : List Value} {ds' : List D} {us' : List Value}, VXs ms w Ok ds us → VXs ms w Ok ds' us' → VXs ms w Ok (ds ++ ds') (us ++ us')
  | _, _, _, _, .nil, h' => h'
  | _, _, _, _, .cons h h1, h' => .cons h (VXs.append h1 h')
theorem VXs.take {ms : List Ent} {w : World} {Ok : Nat → Prop} : ∀ {ds : List D} {us : List Value}, VXs ms w Ok ds us → ∀ n, VXs ms w Ok (ds.take n) (us.take n)
  | _, _, .nil, _ => by simp; exact .nil
  | _, _, .cons _ _, 0 => .nil
  | _, _, .cons h h', n + 1 => .cons h (VXs.take h' n)
theorem VXs.drop {ms : List Ent} {w : World} {Ok : Nat → Prop} : ∀ {ds : List D} {us : List Value}, VXs ms w Ok ds us → ∀ n, VXs ms w Ok (ds.drop n) (us.drop n)
  | _, _, .nil, _ => by simp; exact .nil
  | _, _, h@(.cons _ _), 0 => h
  | _, _, .cons _ h', n + 1 => VXs.drop h' n
theorem VXs.set {ms : List Ent} {w : World} {Ok : Nat → Prop} : ∀ {ds : List D} {us : List Value}, VXs ms w Ok ds us → ∀ (n : Nat) {d : D} {u : Value}, VX ms w Ok d u → VXs ms w Ok (ds.set n d) (us.set n u)
  | _, _, .nil, _, _, _, _ => .nil
  | _, _, .cons _ h', 0, _, _, hd => .cons hd h'
  | _, _, .cons h h', n + 1, _, _, hd => .cons h (VXs.set h' n hd)
theorem VXs.of_rd {ms : List Ent} {w : World} {Ok : Nat → Prop} : ∀ {ds : List D} {us : List Value} {bs : List Nat}, VRs w ds us bs → (∀ k ∈ bs, Ok k) → VXs ms w Ok ds us
  | _, _, _, .nil, _ => .nil
  | _, _, _, .cons h h', hk => .cons (.rd h fun k m => hk k (List.mem_append_left _ m)) (VXs.of_rd h' fun k m => hk k (List.mem_append_right _ m))

def tops (ms : List Ent) : List Nat := ms.filterMap Ent.top
def owned (ms : List Ent) : List Nat := ms.flatMap fun e => e.top.toList ++ e.nest

/-- Which blocks may be read and stay as they are: older ones that the caller vouches for (A), or younger ones, but no block that the call writes. -/
def OkB (base : Nat) (A : Nat → Prop) (ms : List Ent) (w : World) (k : Nat) : Prop := k < w.heap.size ∧ (base ≤ k ∨ A k) ∧ k ∉ tops ms

def EntR (base : Nat) (ms : List Ent) (w : World) (Ok : Nat → Prop) : Blk → Ent → Prop
  | .gone, e => e.top = none ∧ e.nest = []
  | .cells t ds, e => ∃ b us, e = ⟨.pointer (some ⟨b, 0, none⟩), some b, []⟩ ∧ w.heap[b]? = some (.cells us.toArray t (0, 0)) ∧ VXs ms w Ok ds us
  | .arr t n xs deep, e => ∃ us bs, w.ownsRow base t n e.v xs.length us ∧ (∀ r ∈ xs, r.length = n) ∧ VRs w xs.flatten us bs ∧ e.top = e.v.ownBlock ∧
      (if deep then e.nest = bs ∧ ∀ k ∈ bs, Un w k else e.nest = [] ∧ ∀ k ∈ bs, Ok k)
  | .fr n xs, e => e.top = none ∧ VR w (.sh n xs) e.v e.nest ∧ ∀ k ∈ e.nest, Un w k
  | .cust R, e => R w e.v e.top e.nest ∧ ∀ w' : World, (∀ k ∈ e.top.toList ++ e.nest, w'.heap[k]? = w.heap[k]?) → R w' e.v e.top e.nest

/-- A state of the walk: how many slots, what is known of them (the youngest first), the memory. -/
structure St where
  n : Nat
  slots : List (Nat × D)
  heap : List Blk

def look : List (Nat × D) → Nat → D
  | [], _ => .no
  | (t, d) :: l, x => if x = t then d else look l x
def St.get (s : St) (t : Nat) : D := look s.slots t

/-- The state s tells of the frame and the world (w0: the world at the call; A: what the caller vouches for). -/
structure Rel (w0 : World) (A : Nat → Prop) (ms : List Ent) (s : St) (a : Act) (w : World) : Prop where
  ext : Ext w0 w
  old : ∀ k, A k → k < w0.heap.size
  size : a.tmps.size = s.n
  defers : a.defers = []
  len : ms.length = s.heap.length
  nodup : (owned ms).Nodup
  range : ∀ k ∈ owned ms, w0.heap.size ≤ k ∧ k < w.heap.size
  ents : ∀ (i : Nat) (b : Blk) (e : Ent), s.heap[i]? = some b → ms[i]? = some e → EntR w0.heap.size ms w (OkB w0.heap.size A ms w) b e
  slots : ∀ t, VX ms w (OkB w0.heap.size A ms w) (s.get t) (a.tmps.getD t undef)
end Go.Proofs.Ytidfmgahnmpcdaa
