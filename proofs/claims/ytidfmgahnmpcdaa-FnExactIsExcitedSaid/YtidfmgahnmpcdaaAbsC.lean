/- Symbolic states: what an operation that only reckons or reads yields. No condition. -/
import Derived.Test.YtidfmgahnmpcdaaAbsB
set_option linter.unusedSimpArgs false
set_option linter.unusedVariables false
namespace Go.Proofs.Ytidfmgahnmpcdaa
open Go.ChangeShapes Go.WideShapes Go.ChangeAt Go.RowKit

/-- What is asked of a type. -/
inductive TK where
  | str | bool | int (k : IntKind) | sl (e : TypeId) | st (fs : List (Nat × Nat)) | other
structure TI where
  k : TK
  agg : Bool
  size : Nat
  bytes : Nat
  zero : List Value

def TK.of (P : Program) : TypeDesc → TK
  | .string => .str
  | .bool => .bool
  | .int k => .int k
  | .slice e => .sl e
  | .struct fs => .st (fs.toList.map fun f => (f.offset, P.cellsOf f.type))
  | _ => .other
def aggDesc : TypeDesc → Bool
  | .struct _ => true
  | .array _ _ => true
  | _ => false
def TI.of (P : Program) (t : TypeId) : Option TI :=
  match P.info? t, P.underlying t with
  | some i, some d => match i.zero with | some z => some ⟨TK.of P d, aggDesc d, i.size, i.bytes, z.cells.toList⟩ | none => none
  | _, _ => none
def TabOk (P : Program) (tab : Nat → Option TI) : Prop := ∀ t i, tab t = some i → TI.of P t = some i

theorem TI.spec {P : Program} {t : TypeId} {i : TI} (h : TI.of P t = some i) : ∃ inf d z, P.info? t = some inf ∧ P.underlying t = some d ∧ inf.zero = some z ∧ i = ⟨TK.of P d, aggDesc d, inf.size, inf.bytes, z.cells.toList⟩ := by
  unfold TI.of at h
  split at h
  · rename_i inf d h1 h2
    cases hz : inf.zero with
    | none => simp [hz] at h
    | some z => simp [hz] at h; exact ⟨inf, d, z, h1, h2, hz, h.symm⟩
  · simp at h

theorem TK.bool_inv {P : Program} {d : TypeDesc} (h : TK.bool = TK.of P d) : d = .bool := by cases d <;> first | rfl | (simp only [TK.of, reduceCtorEq] at h)
theorem TK.str_inv {P : Program} {d : TypeDesc} (h : TK.str = TK.of P d) : d = .string := by cases d <;> first | rfl | (simp only [TK.of, reduceCtorEq] at h)
theorem TK.sl_inv {P : Program} {d : TypeDesc} {e : TypeId} (h : TK.sl e = TK.of P d) : d = .slice e := by cases d <;> simp only [TK.of, reduceCtorEq, TK.sl.injEq] at h; rw [h]
theorem TK.int_inv {P : Program} {d : TypeDesc} {k : IntKind} (h : TK.int k = TK.of P d) : d = .int k := by cases d <;> simp only [TK.of, reduceCtorEq, TK.int.injEq] at h; rw [h]
theorem TK.st_inv {P : Program} {d : TypeDesc} {l : List (Nat × Nat)} (h : TK.st l = TK.of P d) : ∃ fs, d = .struct fs ∧ l = fs.toList.map fun f => (f.offset, P.cellsOf f.type) := by
  cases d <;> simp only [TK.of, reduceCtorEq, TK.st.injEq] at h
  exact ⟨_, rfl, h⟩
/-- What the table tells. -/
theorem TabOk.get {P : Program} {tab : Nat → Option TI} (hT : TabOk P tab) {t : TypeId} {k : TK} {agg : Bool} {size bytes : Nat} {zero : List Value} (h : tab t = some ⟨k, agg, size, bytes, zero⟩) :
    ∃ inf d z, P.info? t = some inf ∧ P.underlying t = some d ∧ inf.zero = some z ∧ k = TK.of P d ∧ agg = aggDesc d ∧ inf.size = size ∧ inf.bytes = bytes ∧ z.cells.toList = zero := by
  obtain ⟨inf, d, z, h1, h2, h3, h4⟩ := TI.spec (hT _ _ h)
  injection h4 with a1 a2 a3 a4 a5
  exact ⟨inf, d, z, h1, h2, h3, a1, a2, a3.symm, a4.symm, a5.symm⟩

/-- Parts of a row of which the numbers are known. -/
def dropK {α : Type} : Nat → List D → (List D → Option α) → Option α
  | 0, l, k => k l
  | n + 1, _ :: l, k => dropK n l k
  | _ + 1, [], _ => none
def takeK {α : Type} : Nat → List D → (List D → Option α) → Option α
  | 0, _, k => k []
  | n + 1, d :: l, k => takeK n l fun l' => k (d :: l')
  | _ + 1, [], _ => none
theorem dropK_eq {α : Type} : ∀ (n : Nat) (l : List D) (k : List D → Option α) {r : α}, dropK n l k = some r → k (l.drop n) = some r ∧ n ≤ l.length
  | 0, l, k, r, h => ⟨h, by simp⟩
  | n + 1, d :: l, k, r, h => by have := dropK_eq n l k h; exact ⟨by simpa using this.1, by simpa using this.2⟩
  | n + 1, [], k, r, h => by simp [dropK] at h
theorem takeK_eq {α : Type} : ∀ (n : Nat) (l : List D) (k : List D → Option α) {r : α}, takeK n l k = some r → k (l.take n) = some r ∧ n ≤ l.length
  | 0, l, k, r, h => ⟨by simp only [takeK] at h; simpa using h, by simp⟩
  | n + 1, d :: l, k, r, h => by have := takeK_eq n l _ h; exact ⟨by simpa using this.1, by simpa using this.2⟩
  | n + 1, [], k, r, h => by simp [takeK] at h

def constD : Value → D
  | .slice none 0 0 => .nil
  | .int k n => if k.wrap n = n then .lit (.int k n) else .no
  | .bool b => .lit (.bool b)
  | .string s => if s.size ≤ 9223372036854775807 then .lit (.string s) else .no
  | _ => .no
def evD (g : Nat → D) : Operand → D
  | .tmp t => g t
  | .const v => constD v
  | .func f => .fn f []
  | .global _ => .no
theorem constD_ok {ms : List Ent} {w : World} {Ok : Nat → Prop} (v : Value) : VX ms w Ok (constD v) v := by
  unfold constD
  split
  · exact .rd .nil (by simp)
  · split
    · rename_i h; exact .rd (.lit h) (by simp)
    · exact .no
  · exact .rd (.lit trivial) (by simp)
  · split
    · rename_i h; exact .rd (.lit h) (by simp)
    · exact .no
  · exact .no
theorem evD_ok {ms : List Ent} {w : World} {Ok : Nat → Prop} {g : Nat → D} {a : Act} {x : Operand} (h : ∀ t, x = .tmp t → VX ms w Ok (g t) (a.tmps.getD t undef)) : VX ms w Ok (evD g x) (a.eval x) := by
  cases x with
  | tmp t => exact h t rfl
  | const v => exact constD_ok v
  | global g => exact .no
  | func f => exact .fn (us := []) .nil

section
variable {ms : List Ent} {w : World} {Ok : Nat → Prop}
theorem VX.lit_inv {v u : Value} (h : VX ms w Ok (.lit v) u) : u = v ∧ litOk v := by
  cases h with | rd h _ => cases h with | lit h => exact ⟨rfl, h⟩
theorem VX.of_lit {v : Value} (h : litOk v) : VX ms w Ok (.lit v) v := .rd (.lit h) (by simp)
theorem VX.nil_inv {u : Value} (h : VX ms w Ok .nil u) : u = .slice none 0 0 := by
  cases h with | rd h _ => cases h; rfl
theorem VX.agg_inv {ds : List D} {u : Value} (h : VX ms w Ok (.agg ds) u) : ∃ us, u = .agg us.toArray ∧ VXs ms w Ok ds us := by
  cases h with | rd h _ => cases h | agg h => exact ⟨_, rfl, h⟩
theorem VX.tup_inv {ds : List D} {u : Value} (h : VX ms w Ok (.tup ds) u) : ∃ us, u = .tuple us.toArray ∧ VXs ms w Ok ds us := by
  cases h with | rd h _ => cases h | tup h => exact ⟨_, rfl, h⟩
theorem VX.fn_inv {f : FuncId} {ds : List D} {u : Value} (h : VX ms w Ok (.fn f ds) u) : ∃ us, u = .func (.func f) #[] us.toArray ∧ VXs ms w Ok ds us := by
  cases h with | rd h _ => cases h | fn h => exact ⟨_, rfl, h⟩
theorem VX.own_inv {i : Nat} {u : Value} (h : VX ms w Ok (.own i) u) : ∃ e, ms[i]? = some e ∧ u = e.v ∧ ∃ a n c, e.v = .slice a n c := by
  cases h with | rd h _ => cases h | own h h' => exact ⟨_, h, rfl, h'⟩
theorem VX.vec_inv {i len : Nat} {u : Value} (h : VX ms w Ok (.vec i len) u) : ∃ e b, ms[i]? = some e ∧ e.top = some b ∧ u = .slice (some ⟨b, 0, none⟩) len len := by
  cases h with | rd h _ => cases h | vec h h' => exact ⟨_, _, h, h', rfl⟩
theorem VX.ptr_inv {i o : Nat} {u : Value} (h : VX ms w Ok (.ptr i o) u) : ∃ e b, ms[i]? = some e ∧ e.top = some b ∧ u = .pointer (some ⟨b, o, none⟩) := by
  cases h with | rd h _ => cases h | ptr h h' => exact ⟨_, _, h, h', rfl⟩
theorem VX.eptr_inv {i n o : Nat} {k : Int} {u : Value} (h : VX ms w Ok (.eptr i n k o) u) : ∃ e b, ms[i]? = some e ∧ e.top = some b ∧ u = .pointer (some ⟨b, k.toNat * n + o, none⟩) := by
  cases h with | rd h _ => cases h | eptr h h' => exact ⟨_, _, h, h', rfl⟩
theorem VX.sptr_inv {ds : List D} {u : Value} (h : VX ms w Ok (.sptr ds) u) : ∃ us b o bs, u = .pointer (some ⟨b, o, none⟩) ∧ VRs w ds us bs ∧ Ok b ∧ (∀ k ∈ bs, Ok k) ∧ (∀ j, j < us.length → w.cell? ⟨b, o + j, none⟩ = us[j]?) := by
  cases h with | rd h _ => cases h | sptr h h1 h2 h3 => exact ⟨_, _, _, _, rfl, h, h1, h2, h3⟩
theorem VX.sh_inv {n : Nat} {xs : List (List D)} {u : Value} (h : VX ms w Ok (.sh n xs) u) : ∃ bs, VR w (.sh n xs) u bs ∧ ∀ k ∈ bs, Ok k := by
  cases h with | rd h h' => exact ⟨_, h, h'⟩

theorem litOk_i64 {n : Int} : litOk (.int .i64 n) ↔ -9223372036854775808 ≤ n ∧ n ≤ 9223372036854775807 := by
  have e : litOk (.int .i64 n) = (IntKind.i64.wrap n = n) := rfl
  rw [e]; unfold IntKind.wrap
  simp only [IntKind.bits, IntKind.signed, Bool.true_and, ge_iff_le, decide_eq_true_eq, Int.reducePow, Nat.reduceSub]
  split <;> constructor <;> intro h <;> omega
theorem litOk_u8 {n : Int} : litOk (.int .u8 n) ↔ 0 ≤ n ∧ n ≤ 255 := by
  have e : litOk (.int .u8 n) = (IntKind.u8.wrap n = n) := rfl
  rw [e]; unfold IntKind.wrap
  simp only [IntKind.bits, IntKind.signed, Bool.false_and, Int.reducePow, Bool.false_eq_true, if_false]
  constructor <;> intro h <;> omega

/-- The cells of a variable. -/
theorem loadCellsFrom_ok {P : Program} {b o : Nat} : ∀ (us : List Value) (i : Nat) (acc : Array Value), (∀ j, j < us.length → w.cell? ⟨b, o + (i + j), none⟩ = us[j]?) → (loadCellsFrom ⟨b, o, none⟩ i us.length acc).run P w = .ok (acc ++ us.toArray) w
  | [], i, acc, _ => by simp [loadCellsFrom, go_sem]
  | u :: us, i, acc, h => by
    have h0 := h 0 (by simp)
    have e : (Addr.add ⟨b, o, none⟩ i) = ⟨b, o + (i + 0), none⟩ := by unfold Addr.add; split <;> simp_all
    have ih := loadCellsFrom_ok (P := P) us (i + 1) (acc.push u) (fun j hj => by have := h (j + 1) (by simpa using hj); rw [show i + 1 + j = i + (j + 1) by omega]; simpa using this)
    simp only [List.getElem?_cons_zero, Nat.add_zero] at h0
    have hl : (Go.load ⟨b, o + i, none⟩).run P w = .ok u w := by simp only [Go.load, Sem.run, h0]
    simp only [Nat.add_zero] at e
    simp only [List.length_cons, loadCellsFrom, Sem.run_bind, e, hl, Result.andThen, ih]
    simp
end
end Go.Proofs.Ytidfmgahnmpcdaa
