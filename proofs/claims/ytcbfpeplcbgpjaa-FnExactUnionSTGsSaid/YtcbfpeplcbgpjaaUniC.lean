/- The union of two nets: what the reference's and the program's functions hand back. No condition. -/
import Derived.Test.YtcbfpeplcbgpjaaUniB
import Derived.Test.YtcbfpeplcbgpjaaIf
import Derived.Test.YtcbfpeplcbgpjaaAbsY
import Derived.Test.YtcbfpeplcbgpjaaNum
import Derived.Test.YtcbfpeplcbgpjaaMarkNet
set_option linter.unusedSimpArgs false
set_option linter.unusedVariables false
namespace Go.Proofs.Ytcbfpeplcbgpjaa
open Go.ChangeShapes Go.WideShapes Go.ChangeAt Go.RowKit

theorem risingFrom_mem {lo hi : Int} : ∀ {l : List Int} {p : Option Int}, risingFrom lo hi p l = true → ∀ x ∈ l, lo ≤ x ∧ x ≤ hi
  | [], _, _, x, h => by cases h
  | a :: l, p, h, x, hx => by
    cases p <;> simp only [risingFrom, Bool.and_eq_true, decide_eq_true_eq] at h <;> rcases List.mem_cons.1 hx with rfl | hx
    all_goals first | omega | exact risingFrom_mem h.2 x hx
theorem good_mem {c : NetD} (h : goodNet c = true) {t : Tr} (ht : t ∈ c.trs) : (∀ x ∈ t.pre, 0 ≤ x ∧ x ≤ 30) ∧ ∀ x ∈ t.post, 0 ≤ x ∧ x ≤ 30 := by
  simp only [goodNet, Bool.and_eq_true, decide_eq_true_eq, Bool.not_eq_true', List.any_eq_false] at h
  have hb := h.2 t ht
  simp only [badTr, Bool.not_eq_true, Bool.or_eq_false_iff, Bool.not_eq_false'] at hb
  have h1 := risingFrom_mem hb.1.2; have h2 := risingFrom_mem hb.2
  exact ⟨fun x hx => by have := h1 x hx; omega, fun x hx => by have := h2 x hx; omega⟩

def shTr (by_ : Int) (t : Tr) : Tr := ⟨shiftI by_ t.pre, shiftI by_ t.post⟩
def uniT (a b : NetD) (i j : Nat) : List Tr := (a.trs.take i).map (shTr 0) ++ (b.trs.take j).map (shTr a.places)
def uniN (a b : NetD) : NetD := ⟨a.places + b.places, uniT a b a.trs.length b.trs.length⟩
noncomputable def uniR (a b : NetD) : NetD := if (goodNet a && goodNet b) && goodNet (uniN a b) then uniN a b else ⟨0, []⟩
theorem shTr_0 (t : Tr) : shTr 0 t = t := by simp [shTr, shiftI]
/-- What the contracts ask of a net. -/
structure NetOk (c : NetD) : Prop where
  places : 0 ≤ c.places ∧ c.places ≤ 100
  len : c.trs.length ≤ 24
  row : ∀ t ∈ c.trs, (t.pre.length ≤ 1048576 ∧ t.post.length ≤ 1048576) ∧ (∀ x ∈ t.pre, -1000000 ≤ x ∧ x ≤ 1000000) ∧ ∀ x ∈ t.post, -1000000 ≤ x ∧ x ≤ 1000000
theorem NetOk.of (c : NetD) (h : goodNet c = true) (hz : szNetD c ≤ 1048576) : NetOk c := by
  have h' := h
  simp only [goodNet, Bool.and_eq_true, decide_eq_true_eq] at h'
  refine ⟨by omega, h'.1.2, fun t ht => ?_⟩
  have h1 := good_mem h ht; have h2 := le_cnt ht
  rw [show szNetD c = c.trs.length + cntTrs c.trs from rfl] at hz
  exact ⟨by omega, fun x hx => by have := h1.1 x hx; omega, fun x hx => by have := h1.2 x hx; omega⟩
theorem uniT_left {a b : NetD} {i : Nat} (h : i < a.trs.length) : (uniT a b (i + 1) 0).map dTr = (uniT a b i 0).map dTr ++ [[.sh 1 (ints (shiftI 0 (nth a.trs i).pre)), .sh 1 (ints (shiftI 0 (nth a.trs i).post))]] := by
  simp only [uniT]; rw [take_nth h]; simp [shTr, dTr]
theorem uniT_right {a b : NetD} {i j : Nat} (h : j < b.trs.length) : (uniT a b i (j + 1)).map dTr = (uniT a b i j).map dTr ++ [[.sh 1 (ints (shiftI a.places (nth b.trs j).pre)), .sh 1 (ints (shiftI a.places (nth b.trs j).post))]] := by
  simp only [uniT]; rw [take_nth h]; simp [shTr, dTr]
end Go.Proofs.Ytcbfpeplcbgpjaa
