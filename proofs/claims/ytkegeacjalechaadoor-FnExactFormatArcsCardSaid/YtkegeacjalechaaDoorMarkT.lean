/- markText: the text of a mark. -/
import Derived.Test.YtkegeacjalechaaDoorMarkA
import Derived.Laws.BytesString
set_option linter.unusedSimpArgs false
set_option linter.unusedVariables false
namespace Go.Proofs.YtkegeacjalechaaDoor
open Go.ChangeShapes Go.WideShapes Go.ChangeAt Go.RowKit

def dig (j : Nat) : ByteArray := ByteArray.empty.push (UInt8.ofNat (48 + (j : Int) % 10).toNat)
def digs : Nat → Nat → ByteArray → ByteArray
  | 0, _, s => s
  | f + 1, j, s => if j = 0 then s else digs f (j / 10) (dig j ++ s)
theorem digs_zero (f : Nat) (s : ByteArray) : digs f 0 s = s := by cases f <;> simp [digs]
theorem digs_step {f j : Nat} (s : ByteArray) (h : 0 < j) (hf : j ≤ f) : ∃ f', f = f' + 1 ∧ digs f j s = digs f' (j / 10) (dig j ++ s) ∧ j / 10 ≤ f' := by
  cases f with
  | zero => omega
  | succ f => exact ⟨f, rfl, by rw [digs, if_neg (by omega)], by omega⟩
def markStr (n : Int) : ByteArray := if n ≤ 0 then ⟨#[109, 48]⟩ else ⟨#[109]⟩ ++ digs n.toNat n.toNat ⟨#[]⟩

theorem run_dig {P : Program} (w : World) (src dst : TypeId) (e : TypeId) (j : Nat) (hs : P.underlying src = some (.slice e)) (he : P.underlying e = some (.int .u8)) (hd : P.underlying dst = some .string) :
    (convert src dst (.slice (some ⟨w.heap.size, 0, none⟩) 1 1)).run P (w.alloc (.cells #[.int .u8 (48 + (j : Int) % 10)] e)) = .ok (.string (dig j)) (w.alloc (.cells #[.int .u8 (48 + (j : Int) % 10)] e)) := by
  rw [run_convert_bytes_string _ _ _ e _ _ _ hs he hd, run_bytesToString (ns := [48 + (j : Int) % 10])]
  · rfl
  · simp [go_sem]

end Go.Proofs.YtkegeacjalechaaDoor
