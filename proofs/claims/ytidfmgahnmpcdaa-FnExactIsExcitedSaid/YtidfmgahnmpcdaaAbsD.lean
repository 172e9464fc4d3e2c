/- Symbolic states: what an operation that only reckons or reads yields, operation by operation. No condition. -/
import Derived.Test.YtidfmgahnmpcdaaAbsC
set_option linter.unusedSimpArgs false
set_option linter.unusedVariables false
namespace Go.Proofs.Ytidfmgahnmpcdaa
open Go.ChangeShapes Go.WideShapes Go.ChangeAt Go.RowKit

/-- Bits of two numbers: and, or, and-not. -/
def andI (a b : Int) : Int := IntKind.i64.wrap ((BitVec.ofInt 64 a &&& BitVec.ofInt 64 b).toNat : Int)
def orI (a b : Int) : Int := IntKind.i64.wrap ((BitVec.ofInt 64 a ||| BitVec.ofInt 64 b).toNat : Int)
def andNotI (a b : Int) : Int := IntKind.i64.wrap ((BitVec.ofInt 64 a &&& ~~~ BitVec.ofInt 64 b).toNat : Int)
/-- The sum, difference, product; comparisons of two numbers of one kind. -/
def intD (op : BinOp) (k : IntKind) (a b : Int) : Option (Prop × D) :=
  match op with
  | .add => match k with
    | .i64 => some (-9223372036854775808 ≤ a + b ∧ a + b ≤ 9223372036854775807, .lit (.int .i64 (a + b)))
    | .u8 => some (0 ≤ a + b ∧ a + b ≤ 255, .lit (.int .u8 (a + b)))
    | _ => none
  | .sub => match k with
    | .i64 => some (-9223372036854775808 ≤ a - b ∧ a - b ≤ 9223372036854775807, .lit (.int .i64 (a - b)))
    | .u8 => some (0 ≤ a - b ∧ a - b ≤ 255, .lit (.int .u8 (a - b)))
    | _ => none
  | .mul => match k with
    | .i64 => some (-9223372036854775808 ≤ a * b ∧ a * b ≤ 9223372036854775807, .lit (.int .i64 (a * b)))
    | _ => none
  | .quo => match k with
    | .i64 => some (0 ≤ a ∧ 0 < b, .lit (.int .i64 (a / b)))
    | _ => none
  | .rem => match k with
    | .i64 => some (0 ≤ a ∧ 0 < b, .lit (.int .i64 (a % b)))
    | _ => none
  | .shl => match k with
    | .i64 => some ((0 ≤ b ∧ b ≤ 63) ∧ -9223372036854775808 ≤ a * 2 ^ b.toNat ∧ a * 2 ^ b.toNat ≤ 9223372036854775807, .lit (.int .i64 (a * 2 ^ b.toNat)))
    | _ => none
  | .shr => match k with
    | .i64 => some (0 ≤ b ∧ b ≤ 63, .lit (.int .i64 (a / 2 ^ b.toNat)))
    | _ => none
  | .and => match k with
    | .i64 => some (True, .lit (.int .i64 (andI a b)))
    | _ => none
  | .or => match k with
    | .i64 => some (True, .lit (.int .i64 (orI a b)))
    | _ => none
  | .andNot => match k with
    | .i64 => some (True, .lit (.int .i64 (andNotI a b)))
    | _ => none
  | .eql => some (True, .lit (.bool (decide (a = b))))
  | .neq => some (True, .lit (.bool (!decide (a = b))))
  | .lss => some (True, .lit (.bool (decide (a < b))))
  | .leq => some (True, .lit (.bool (decide (a ≤ b))))
  | .gtr => some (True, .lit (.bool (decide (b < a))))
  | .geq => some (True, .lit (.bool (decide (b ≤ a))))
  | _ => none
def strD (op : BinOp) (a b : ByteArray) : Option (Prop × D) :=
  match op with
  | .add => some (a.size + b.size ≤ 9223372036854775807, .lit (.string (a ++ b)))
  | .eql => some (True, .lit (.bool (decide (a = b))))
  | .neq => some (True, .lit (.bool (!decide (a = b))))
  | .lss => some (True, .lit (.bool (Op.bytesLess a.toList b.toList)))
  | _ => none
def boolD (op : BinOp) (a b : Bool) : Option (Prop × D) :=
  match op with
  | .eql => some (True, .lit (.bool (a == b)))
  | .neq => some (True, .lit (.bool (!(a == b))))
  | _ => none
def kindEq : IntKind → IntKind → Bool
  | .i64, .i64 => true
  | .u8, .u8 => true
  | _, _ => false
def isBoolK : Option TI → Bool
  | some ⟨.bool, _, _, _, _⟩ => true
  | _ => false
def binD (tab : Nat → Option TI) (op : BinOp) (t : TypeId) : D → D → Option (Prop × D)
  | .lit (.int k a), .lit (.int k' b) => match kindEq k k' with | true => intD op k a b | false => none
  | .lit (.string a), .lit (.string b) => strD op a b
  | .lit (.bool a), .lit (.bool b) => match isBoolK (tab t) with | true => boolD op a b | false => none
  | _, _ => none

theorem kindEq_eq {k k' : IntKind} (h : kindEq k k' = true) : k = k' := by cases k <;> cases k' <;> first | rfl | (exact Bool.noConfusion h)
theorem bytesExt {a b : ByteArray} (h : a.toList = b.toList) : a = b := by
  rw [ByteArray.toList_eq, ByteArray.toList_eq] at h
  cases a; cases b
  simp at h; simp [h]
theorem bytes_toList_beq (a b : ByteArray) : (a.toList == b.toList) = decide (a = b) := by
  rw [Bool.eq_iff_iff, beq_iff_eq, decide_eq_true_eq]; exact ⟨bytesExt, fun e => by rw [e]⟩

section
variable {P : Program} {ms : List Ent} {w : World} {Ok : Nat → Prop}

theorem int_vx {k : IntKind} {n : Int} (h : litOk (.int k n)) : VX ms w Ok (.lit (.int k n)) (.int k n) := VX.of_lit h
theorem bool_vx {b : Bool} : VX ms w Ok (.lit (.bool b)) (.bool b) := VX.of_lit trivial

theorem wrap_i64 {n : Int} (h : -9223372036854775808 ≤ n ∧ n ≤ 9223372036854775807) : IntKind.i64.wrap n = n := litOk_i64.2 h
theorem wrap_u8 {n : Int} (h : 0 ≤ n ∧ n ≤ 255) : IntKind.u8.wrap n = n := litOk_u8.2 h

theorem wrap_wrap (n : Int) : IntKind.i64.wrap (IntKind.i64.wrap n) = IntKind.i64.wrap n := by
  refine wrap_i64 ?_
  unfold IntKind.wrap
  simp only [IntKind.bits, IntKind.signed, Bool.true_and, ge_iff_le, decide_eq_true_eq, Int.reducePow, Nat.reduceSub]
  split <;> omega

theorem intD_ok {op : BinOp} {t : TypeId} {x y : Operand} {k : IntKind} {a b : Int} {c : Prop} {d : D} (h : intD op k a b = some (c, d)) (hc : c) (ha : litOk (.int k a)) (hb : litOk (.int k b)) :
    ∃ v, (do eqGuard op t x y (.int k a) (.int k b); binOp op t (.int k a) (.int k b) : Sem Value).run P w = .ok v w ∧ VX ms w Ok d v := by
  have hg : (eqGuard op t x y (.int k a) (.int k b)).run P w = .ok () w := by
    unfold eqGuard; split <;> simp [go_sem]
  simp only [Sem.run_bind, hg, Result.andThen]
  cases op <;> simp only [intD] at h
  case add =>
    cases k <;> simp only [Option.some.injEq, Prod.mk.injEq, reduceCtorEq] at h
    · obtain ⟨rfl, rfl⟩ := h
      exact ⟨_, by simp only [binOp, Op.intArith, go_sem, wrap_i64 hc, ne_eq, not_true_eq_false, ↓reduceIte]; rfl, int_vx (litOk_i64.2 hc)⟩
    · obtain ⟨rfl, rfl⟩ := h
      exact ⟨_, by simp only [binOp, Op.intArith, go_sem, wrap_u8 hc, ne_eq, not_true_eq_false, ↓reduceIte]; rfl, int_vx (litOk_u8.2 hc)⟩
  case sub =>
    cases k <;> simp only [Option.some.injEq, Prod.mk.injEq, reduceCtorEq] at h
    · obtain ⟨rfl, rfl⟩ := h
      exact ⟨_, by simp only [binOp, Op.intArith, go_sem, wrap_i64 hc, ne_eq, not_true_eq_false, ↓reduceIte]; rfl, int_vx (litOk_i64.2 hc)⟩
    · obtain ⟨rfl, rfl⟩ := h
      exact ⟨_, by simp only [binOp, Op.intArith, go_sem, wrap_u8 hc, ne_eq, not_true_eq_false, ↓reduceIte]; rfl, int_vx (litOk_u8.2 hc)⟩
  case mul =>
    cases k <;> simp only [Option.some.injEq, Prod.mk.injEq, reduceCtorEq] at h
    obtain ⟨rfl, rfl⟩ := h
    exact ⟨_, by simp only [binOp, Op.intArith, go_sem, wrap_i64 hc, ne_eq, not_true_eq_false, ↓reduceIte]; rfl, int_vx (litOk_i64.2 hc)⟩
  case quo =>
    cases k <;> simp only [Option.some.injEq, Prod.mk.injEq, reduceCtorEq] at h
    obtain ⟨rfl, rfl⟩ := h
    have hr := litOk_i64.1 ha
    have e : a.tdiv b = a / b := Int.tdiv_eq_ediv_of_nonneg hc.1
    have h0 : 0 ≤ a / b := Int.ediv_nonneg hc.1 (by omega)
    have h1 : a / b ≤ a := Int.ediv_le_self _ hc.1
    have hw : -9223372036854775808 ≤ a / b ∧ a / b ≤ 9223372036854775807 := ⟨by omega, by omega⟩
    refine ⟨.int .i64 (a / b), ?_, int_vx (litOk_i64.2 hw)⟩
    simp only [binOp, Op.intDiv, go_sem, ne_eq, not_true_eq_false, if_false, show ¬ b = 0 by omega, e, wrap_i64 hw]; rfl
  case shl =>
    cases k <;> simp only [Option.some.injEq, Prod.mk.injEq, reduceCtorEq] at h
    obtain ⟨rfl, rfl⟩ := h
    obtain ⟨h1, h2⟩ := hc
    refine ⟨.int .i64 (a * 2 ^ b.toNat), ?_, int_vx (litOk_i64.2 h2)⟩
    have e : min b.toNat IntKind.i64.bits = b.toNat := by simp only [IntKind.bits]; omega
    simp only [binOp, Op.shift, if_neg (show ¬ b < 0 by omega), e, wrap_i64 h2]; rfl
  case shr =>
    cases k <;> simp only [Option.some.injEq, Prod.mk.injEq, reduceCtorEq] at h
    obtain ⟨rfl, rfl⟩ := h
    have hr := litOk_i64.1 ha
    have e : min b.toNat IntKind.i64.bits = b.toNat := by simp only [IntKind.bits]; omega
    have hp : (0 : Int) < 2 ^ b.toNat := Int.pow_pos (by decide)
    have e2 : a.fdiv (2 ^ b.toNat) = a / 2 ^ b.toNat := Int.fdiv_eq_ediv_of_nonneg _ (by omega)
    have hlo : -9223372036854775808 ≤ a / 2 ^ b.toNat := by
      rw [Int.le_ediv_iff_mul_le hp]
      have : (-9223372036854775808 : Int) * 2 ^ b.toNat ≤ -9223372036854775808 * 1 := Int.mul_le_mul_of_nonpos_left (by omega) (by omega)
      omega
    have hhi : a / 2 ^ b.toNat ≤ 9223372036854775807 := by
      rcases Int.lt_or_le a 0 with h | h
      · have := Int.ediv_neg_of_neg_of_pos h hp; omega
      · have := Int.ediv_le_self (2 ^ b.toNat) h; omega
    refine ⟨.int .i64 (a / 2 ^ b.toNat), ?_, int_vx (litOk_i64.2 ⟨hlo, hhi⟩)⟩
    simp only [binOp, Op.shift, if_neg (show ¬ b < 0 by omega), e, e2]; rfl
  case and =>
    cases k <;> simp only [Option.some.injEq, Prod.mk.injEq, reduceCtorEq] at h
    obtain ⟨rfl, rfl⟩ := h
    exact ⟨.int .i64 (andI a b), by simp only [binOp, Op.intBits, ne_eq, not_true_eq_false, if_false]; rfl, int_vx (wrap_wrap _)⟩
  case or =>
    cases k <;> simp only [Option.some.injEq, Prod.mk.injEq, reduceCtorEq] at h
    obtain ⟨rfl, rfl⟩ := h
    exact ⟨.int .i64 (orI a b), by simp only [binOp, Op.intBits, ne_eq, not_true_eq_false, if_false]; rfl, int_vx (wrap_wrap _)⟩
  case andNot =>
    cases k <;> simp only [Option.some.injEq, Prod.mk.injEq, reduceCtorEq] at h
    obtain ⟨rfl, rfl⟩ := h
    exact ⟨.int .i64 (andNotI a b), by simp only [binOp, Op.intBits, ne_eq, not_true_eq_false, if_false]; rfl, int_vx (wrap_wrap _)⟩
  case rem =>
    cases k <;> simp only [Option.some.injEq, Prod.mk.injEq, reduceCtorEq] at h
    obtain ⟨rfl, rfl⟩ := h
    have hr := litOk_i64.1 hb
    have e : a.tmod b = a % b := Int.tmod_eq_emod_of_nonneg hc.1
    have h0 : 0 ≤ a % b := Int.emod_nonneg _ (by omega)
    have h1 : a % b < b := Int.emod_lt_of_pos _ hc.2
    refine ⟨.int .i64 (a % b), ?_, int_vx (litOk_i64.2 ⟨by omega, by omega⟩)⟩
    simp only [binOp, Op.intDiv, go_sem, ne_eq, not_true_eq_false, if_false, show ¬ b = 0 by omega, e]; rfl
  all_goals try (exfalso; simp at h; done)
  all_goals
    simp only [Option.some.injEq, Prod.mk.injEq] at h
    obtain ⟨rfl, rfl⟩ := h
    refine ⟨_, by simp only [binOp, Op.intCmp, go_sem, ne_eq, not_true_eq_false, if_false]; rfl, ?_⟩
    first
      | exact bool_vx
      | (rw [show (a == b) = decide (a = b) from by rw [Bool.eq_iff_iff]; simp]; exact bool_vx)
      | (rw [show (a != b) = !decide (a = b) from by rw [Bool.eq_iff_iff]; simp]; exact bool_vx)

theorem strD_ok {op : BinOp} {t : TypeId} {x y : Operand} {a b : ByteArray} {c : Prop} {d : D} (h : strD op a b = some (c, d)) (hc : c) :
    ∃ v, (do eqGuard op t x y (.string a) (.string b); binOp op t (.string a) (.string b) : Sem Value).run P w = .ok v w ∧ VX ms w Ok d v := by
  have hg : (eqGuard op t x y (.string a) (.string b)).run P w = .ok () w := by
    unfold eqGuard; split <;> simp [go_sem]
  simp only [Sem.run_bind, hg, Result.andThen]
  cases op <;> simp only [strD] at h
  all_goals try (exfalso; simp at h; done)
  all_goals
    simp only [Option.some.injEq, Prod.mk.injEq] at h
    obtain ⟨rfl, rfl⟩ := h
  case add =>
    refine ⟨.string (a ++ b), ?_, VX.of_lit ?_⟩
    · have : ¬ (((a.size + b.size : Nat) : Int) > IntKind.i64.max) := by
        have e : IntKind.i64.max = 9223372036854775807 := by simp [IntKind.max, IntKind.signed, IntKind.bits]
        rw [e]; omega
      simp only [binOp, Op.stringOp, if_neg this, go_sem]; rfl
    · simp only [litOk, ByteArray.size_append]; exact hc
  all_goals
    refine ⟨_, by simp only [binOp, Op.stringOp, go_sem]; rfl, ?_⟩
    try simp only [bytes_toList_beq]
    exact bool_vx

theorem boolD_ok {op : BinOp} {t : TypeId} {x y : Operand} {a b : Bool} {c : Prop} {d : D} (h : boolD op a b = some (c, d)) (hc : c) (ht : P.underlying t = some .bool) :
    ∃ v, (do eqGuard op t x y (.bool a) (.bool b); binOp op t (.bool a) (.bool b) : Sem Value).run P w = .ok v w ∧ VX ms w Ok d v := by
  have hg : (eqGuard op t x y (.bool a) (.bool b)).run P w = .ok () w := by
    unfold eqGuard; split <;> simp [go_sem]
  have he : (Op.equal t (.bool a) (.bool b)).run P w = .ok (a == b) w := by
    rw [show Op.equal t (.bool a) (.bool b) = Op.equalIn (9999 + 1) t (.bool a) (.bool b) from rfl]
    unfold Op.equalIn
    simp only [Sem.run_bind]
    have hu : (Go.underlying t).run P w = .ok .bool w := by simp [Go.underlying, go_sem, ht]
    simp only [hu, Result.andThen]
    simp [go_sem]
  simp only [Sem.run_bind, hg, Result.andThen]
  cases op <;> simp only [boolD] at h
  all_goals try (exfalso; simp at h; done)
  all_goals
    simp only [Option.some.injEq, Prod.mk.injEq] at h
    obtain ⟨rfl, rfl⟩ := h
    refine ⟨_, by simp only [binOp, Sem.run_bind, he, Result.andThen, go_sem]; rfl, bool_vx⟩

theorem binD_ok {tab : Nat → Option TI} (hT : TabOk P tab) {op : BinOp} {t : TypeId} {x y : Operand} {p q : D} {u v : Value} {c : Prop} {d : D} (h : binD tab op t p q = some (c, d)) (hc : c) (hu : VX ms w Ok p u) (hv : VX ms w Ok q v) :
    ∃ r, (do eqGuard op t x y u v; binOp op t u v : Sem Value).run P w = .ok r w ∧ VX ms w Ok d r := by
  unfold binD at h
  split at h
  · obtain ⟨rfl, h1⟩ := hu.lit_inv
    obtain ⟨rfl, h2⟩ := hv.lit_inv
    split at h
    · rename_i e
      cases kindEq_eq e
      exact intD_ok h hc h1 h2
    · simp at h
  · obtain ⟨rfl, h1⟩ := hu.lit_inv
    obtain ⟨rfl, h2⟩ := hv.lit_inv
    exact strD_ok h hc
  · obtain ⟨rfl, h1⟩ := hu.lit_inv
    obtain ⟨rfl, h2⟩ := hv.lit_inv
    split at h
    · rename_i e
      unfold isBoolK at e
      split at e
      · rename_i agg size bytes zero ht
        obtain ⟨inf, dd, z, _, h4, _, h5, _⟩ := hT.get ht
        exact boolD_ok h hc (by rw [h4, TK.bool_inv h5])
      · exact Bool.noConfusion e
    · simp at h
  · simp at h
end
end Go.Proofs.Ytidfmgahnmpcdaa
