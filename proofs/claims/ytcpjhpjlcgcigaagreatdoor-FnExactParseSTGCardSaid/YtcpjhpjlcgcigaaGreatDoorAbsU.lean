/- Symbolic states: structs compared. No condition. -/
import Derived.Test.YtcpjhpjlcgcigaaGreatDoorAbsS
import Derived.Laws.StructEq
set_option linter.unusedSimpArgs false
set_option linter.unusedVariables false
namespace Go.Proofs.YtcpjhpjlcgcigaaGreatDoor
open Go.ChangeShapes Go.WideShapes Go.ChangeAt Go.RowKit

/-- What '==' says of two structs of scalars. -/
def EqFn (P : Program) (t : TypeId) (us us' : List Value) (b : Bool) : Prop := P.eqGuardType P.depth t = false ∧ ∀ w, (Op.equalIn 10000 t (.agg us.toArray) (.agg us'.toArray)).run P w = .ok b w

section
variable {P : Program} {w0 w : World} {A Ok : Nat → Prop} {s : St} {ms : List Ent} {a : Act} {ops : Array Oper} {rest : List Oper} {K : St → Prop}
variable {n : Nat} {sl : List (Nat × D)} {hp : List Blk} {x y : Operand} {dst : Tmp} {ty t t' : TypeId} {pos : String} {after : Array Edge} {us us' : List Value} {b : Bool}
theorem lits_inv : ∀ {us : List Value} {vs : List Value}, VXs ms w Ok (us.map D.lit) vs → vs = us
  | [], _, .nil => rfl
  | u :: us, _, .cons h h' => by rw [lits_inv h', h.lit_inv.1]
theorem agg_lits {v : Value} (h : VX ms w Ok (.agg (us.map D.lit)) v) : v = .agg us.toArray := by
  obtain ⟨vs, rfl, h1⟩ := h.agg_inv
  rw [lits_inv h1]
theorem R_eqs (he : EqFn P t us us' b) (hx : evD (look sl) x = .agg (us.map D.lit)) (hy : evD (look sl) y = .agg (us'.map D.lit)) (hd : Nat.blt dst n = true)
    (hk : WO P w0 A ops rest ⟨n, (dst, .lit (.bool b)) :: sl, hp⟩ K) : WO P w0 A ops (⟨some dst, .binOp .eql t x y t', ty, pos, after, none⟩ :: rest) ⟨n, sl, hp⟩ K := by
  refine ⟨fun ms a w hr Q hq => ?_⟩
  refine wpList_plain rfl fun Kn hKn => ?_
  have e1 := agg_lits (hr.ev_at hx)
  have e2 := agg_lits (hr.ev_at hy)
  refine upon_value (v := .bool b) (w' := w) ?_ (hKn _ _ (hk.run ms _ w (Rel.put (t := some dst) hr (bool_vx) (dstOk_all (s := ⟨n, sl, hp⟩) (t := some dst) hd)) Q hq))
  simp only [execOp, e1, e2, Sem.run_bind, run_eqGuard_agg w _ t x y _ _ he.1, run_eql_struct w t, he.2 w, Result.andThen]; rfl
theorem R_nes (he : EqFn P t us us' b) (hx : evD (look sl) x = .agg (us.map D.lit)) (hy : evD (look sl) y = .agg (us'.map D.lit)) (hd : Nat.blt dst n = true)
    (hk : WO P w0 A ops rest ⟨n, (dst, .lit (.bool (!b))) :: sl, hp⟩ K) : WO P w0 A ops (⟨some dst, .binOp .neq t x y t', ty, pos, after, none⟩ :: rest) ⟨n, sl, hp⟩ K := by
  refine ⟨fun ms a w hr Q hq => ?_⟩
  refine wpList_plain rfl fun Kn hKn => ?_
  have e1 := agg_lits (hr.ev_at hx)
  have e2 := agg_lits (hr.ev_at hy)
  refine upon_value (v := .bool (!b)) (w' := w) ?_ (hKn _ _ (hk.run ms _ w (Rel.put (t := some dst) hr (bool_vx) (dstOk_all (s := ⟨n, sl, hp⟩) (t := some dst) hd)) Q hq))
  simp only [execOp, e1, e2, Sem.run_bind, run_eqGuard_agg w _ t x y _ _ he.1, run_neq_struct w t, he.2 w, Result.andThen]; rfl
end
end Go.Proofs.YtcpjhpjlcgcigaaGreatDoor
