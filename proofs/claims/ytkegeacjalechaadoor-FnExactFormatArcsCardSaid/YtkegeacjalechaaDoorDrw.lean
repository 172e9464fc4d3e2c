/- Symbolic states: a region that draws its order, cut by hand. No condition. -/
import Derived.Test.YtkegeacjalechaaDoorAbsS
set_option linter.unusedSimpArgs false
set_option linter.unusedVariables false
namespace Go.Proofs.YtkegeacjalechaaDoor
open Go.ChangeShapes Go.WideShapes Go.ChangeAt Go.RowKit
section
variable {P : Program} {w0 : World} {A : Nat → Prop} {tab : Nat → Option TI} {n : Nat} {sl : List (Nat × D)} {hp : List Blk} {Q : Exit → St → Prop}
def cutK {α : Type} : Nat → List Oper → (List Oper → List Oper → Option α) → Option α
  | 0, l, k => k [] l
  | n + 1, o :: l, k => cutK n l fun a b => k (o :: a) b
  | _ + 1, [], _ => none
theorem cutK_eq {α : Type} : ∀ {n : Nat} {l : List Oper} {k : List Oper → List Oper → Option α} {r : α}, cutK n l k = some r → ∃ a b, k a b = some r ∧ l = a ++ b
  | 0, l, _, _, h => ⟨[], l, h, rfl⟩
  | n + 1, [], _, _, h => by simp [cutK] at h
  | n + 1, o :: l, k, r, h => by
    obtain ⟨a, b, h1, rfl⟩ := cutK_eq (n := n) (l := l) (k := fun a b => k (o :: a) b) h
    exact ⟨o :: a, b, h1, rfl⟩
theorem W_drawAt (c : Nat) (hm : P.follows .mixedOrders = true) (hT : TabOk P tab) {l l1 l2 : List Oper} {id : Nat} (hs : cutK c l (fun a b => some (a, b)) = some (l1, l2)) (hok : drawOk l1 = true) (hto : tailOk l l1.length = true) (h : DW P w0 A tab l.toArray hp.length n l1 sl hp fun s => WO P w0 A l.toArray l2 s fun s => Q .normal s) :
    W P w0 A (.region id l.toArray true) ⟨n, sl, hp⟩ Q := by
  obtain ⟨a, b, h1, rfl⟩ := cutK_eq hs
  simp only [Option.some.injEq, Prod.mk.injEq] at h1
  obtain ⟨rfl, rfl⟩ := h1
  obtain ⟨rs, h1, h2, h3⟩ := h.run
  exact W_drawT hm hT hok hto h1 h2 h3
end
end Go.Proofs.YtkegeacjalechaaDoor
