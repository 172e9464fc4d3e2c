/- Unused places: what the reference's and the program's functions hand back. No condition. -/
import Derived.Test.YtcpjhpjlcgcigaaGreatDoorStg
import Derived.Test.YtcpjhpjlcgcigaaGreatDoorIx
import Derived.Test.YtcpjhpjlcgcigaaGreatDoorPick
set_option linter.unusedSimpArgs false
set_option linter.unusedVariables false
namespace Go.Proofs.YtcpjhpjlcgcigaaGreatDoor
open Go.ChangeShapes Go.WideShapes Go.ChangeAt Go.RowKit

theorem goodStg_len {s : Stg} (h : goodStg s = true) : s.labels.length = s.net.trs.length ∧ s.net.trs.length ≤ 24 ∧ 1 ≤ s.signals.length ∧ s.signals.length ≤ 8 ∧ 1 ≤ s.net.places ∧ s.net.places ≤ 40 := by
  simp only [goodStg, goodMark, goodNet, sigsB, Bool.and_eq_true, decide_eq_true_eq] at h; omega

theorem start_le (s : Stg) : s.start.size ≤ szStg s := by unfold szStg; omega

/-- The transitions that use a place. -/
def useP (n : NetD) (p : Int) (post : Bool) (t : Nat) : Bool := decide (p ∈ if post then (nth n.trs t).post else (nth n.trs t).pre)
def useL (n : NetD) (p : Int) (post : Bool) : List Int := pickN (useP n p post) n.trs.length
theorem ret_own2 {rs : Array ResultVar} {i j : Nat} {s : St} {t t' : TypeId} {n n' : Nat} {xs xs' ys ys' : List (List D)} {dp dp' : Bool} (h : retD s rs.toList = some (.tup [.own i, .own j])) (hb : s.heap[i]? = some (.arr t n xs dp)) (hb' : s.heap[j]? = some (.arr t' n' ys dp')) (hne : i ≠ j) (e : xs = xs') (e' : ys = ys') : RetS rs (.tup [.own 0, .own 1]) [.arr t n xs' dp, .arr t' n' ys' dp'] s :=
  ⟨_, [some i, some j], h, ⟨rfl, rfl, trivial⟩, ⟨by rw [← e]; exact hb, rfl, by rw [← e']; exact hb', rfl, trivial⟩, by simp [hne]⟩

def unuP (s : Stg) (k : Nat) : Bool := decide ((useL s.net (k : Int) false).length = 0) && decide ((useL s.net (k : Int) true).length = 0)
def unuL (s : Stg) : List Int := if goodStg s then pickN (unuP s) s.net.places.toNat else []

theorem unuL_len (s : Stg) : (unuL s).length ≤ 40 := by
  unfold unuL
  split
  · rename_i h
    have := goodStg_len h; have := pickN_len (unuP s) s.net.places.toNat
    omega
  · simp

end Go.Proofs.YtcpjhpjlcgcigaaGreatDoor
