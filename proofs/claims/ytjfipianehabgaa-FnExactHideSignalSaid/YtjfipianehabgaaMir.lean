/- Graphs mirrored: what the program's and the reference's functions hand back. No condition. -/
import Derived.Test.YtjfipianehabgaaCopyb
import Derived.Test.YtjfipianehabgaaStg
import Derived.Test.YtjfipianehabgaaMarkStg
set_option linter.unusedSimpArgs false
set_option linter.unusedVariables false
namespace Go.Proofs.Ytjfipianehabgaa
open Go.ChangeShapes Go.WideShapes Go.ChangeAt Go.RowKit

theorem retC_own3t {tab : Nat → Option TI} {s : St} {rs : Array ResultVar} {i j k : Nat} {t1 t2 t3 : TypeId} {m1 m2 m3 : Nat} {xs xs' ys ys' zs zs' : List (List D)} {u u' v v' q q' : Value} (h : retDC tab s rs.toList = some (.tup [.agg [.lit u, .own i, .own j, .own k, .lit v], .lit q])) (h1 : s.heap[i]? = some (.arr t1 m1 xs true)) (h2 : s.heap[j]? = some (.arr t2 m2 ys true)) (h3 : s.heap[k]? = some (.arr t3 m3 zs true))
    (hn : (i ≠ j ∧ i ≠ k) ∧ j ≠ k) (e1 : u = u') (e2 : v = v') (e6 : q = q') (e3 : xs = xs') (e4 : ys = ys') (e5 : zs = zs') : RetC tab rs (.tup [.agg [.lit u', .own 0, .own 1, .own 2, .lit v'], .lit q']) [.arr t1 m1 xs' true, .arr t2 m2 ys' true, .arr t3 m3 zs' true] s := by
  subst e3; subst e4; subst e5
  exact ⟨_, [some i, some j, some k], h, ⟨⟨e1, rfl, rfl, rfl, e2, trivial⟩, e6, trivial⟩, ⟨h1, rfl, h2, rfl, h3, rfl, trivial⟩, by simp [hn]⟩
theorem retC_nil3t {tab : Nat → Option TI} {s : St} {rs : Array ResultVar} {t1 t2 t3 : TypeId} {m1 m2 m3 : Nat} {xs' ys' zs' : List (List D)} {u u' v v' q q' : Value} (h : retDC tab s rs.toList = some (.tup [.agg [.lit u, .nil, .nil, .nil, .lit v], .lit q]))
    (e1 : u = u') (e2 : v = v') (e6 : q = q') (e3 : xs' = []) (e4 : ys' = []) (e5 : zs' = []) : RetC tab rs (.tup [.agg [.lit u', .own 0, .own 1, .own 2, .lit v'], .lit q']) [.arr t1 m1 xs' true, .arr t2 m2 ys' true, .arr t3 m3 zs' true] s :=
  ⟨_, [none, none, none], h, ⟨⟨e1, rfl, rfl, rfl, e2, trivial⟩, e6, trivial⟩, ⟨e3, e4, e5, trivial⟩, by simp⟩

def mirSig (x : Sig) : Sig := ⟨x.name, 3 - x.kind⟩
def mirL (l : List Sig) (i : Nat) : List Sig := (l.take i).map mirSig ++ l.drop i
theorem mirL_len (l : List Sig) (i : Nat) : (mirL l i).length = l.length := by simp [mirL]; omega
theorem mirL_nth {l : List Sig} {i : Nat} (h : i < l.length) : nth (mirL l i) i = nth l i := by
  rw [nth_get (by rw [mirL_len]; exact h), nth_get h]
  simp only [mirL]
  rw [List.getElem_append_right (by simp; omega)]
  simp [Nat.min_eq_left (Nat.le_of_lt h)]
theorem mirL_step {l : List Sig} {i : Nat} (h : i < l.length) : (mirL l i).set i ⟨(nth (mirL l i) i).name, 3 - (nth l i).kind⟩ = mirL l (i + 1) := by
  rw [mirL_nth h]
  simp only [mirL]
  rw [take_nth h, drop_nth h, List.map_append, List.append_assoc, List.set_append_right _ _ (by simp; omega)]
  congr 1
  simp [Nat.min_eq_left (Nat.le_of_lt h), mirSig]
theorem mirL_zero (l : List Sig) : mirL l 0 = l := by simp [mirL]
theorem mirL_all (l : List Sig) : mirL l l.length = l.map mirSig := by simp [mirL]
def notInt (x : Sig) : Bool := !decide (x.kind = 3)
def noStg : Stg := ⟨⟨0, []⟩, [], [], ⟨#[]⟩⟩
noncomputable def mirB (s : Stg) : Bool := goodStg s && s.signals.all notInt
noncomputable def mirR (s : Stg) : Stg := if mirB s then ⟨s.net, s.signals.map mirSig, s.labels, s.start⟩ else noStg
theorem mirR_no {s : Stg} (h : mirB s = false) : mirR s = noStg := by simp [mirR, h]
theorem mirR_yes {s : Stg} (h : mirB s = true) : mirR s = ⟨s.net, s.signals.map mirSig, s.labels, s.start⟩ := by simp [mirR, h]
theorem stg_ok {s : Stg} (h : goodStg s = true) (hz : szStg s ≤ 1048576) : NetOk s.net ∧ s.signals.length ≤ 1000000 ∧ s.labels.length ≤ 1000000 ∧ ∀ x ∈ s.signals, 1 ≤ x.kind ∧ x.kind ≤ 3 := by
  have h' := h
  simp only [goodStg, goodMark, sigsB, Bool.and_eq_true, decide_eq_true_eq] at h'
  obtain ⟨⟨h1, _⟩, ⟨h2, h3⟩, h4, _⟩ := h'
  have hN := NetOk.of s.net h1 (by simp only [szStg] at hz; omega)
  have hl := hN.len
  refine ⟨hN, by omega, by omega, fun x hx => ?_⟩
  obtain ⟨j, hj, rfl⟩ := List.getElem_of_mem hx
  have := (h2 j hj).1
  rw [nth_get hj] at this
  simp only [sigOk, Bool.and_eq_true, decide_eq_true_eq] at this
  exact this.2

theorem stg_le {s t : Stg} (h : goodStg s = true) (e1 : t.net = s.net) (e2 : t.signals.length = s.signals.length) (e3 : t.labels.length = s.labels.length) : ((cntTrs t.net.trs ≤ szStg s ∧ t.net.trs.length ≤ 24) ∧ t.signals.length ≤ 8 ∧ t.labels.length ≤ 24) ∧ -9223372036854775808 ≤ t.net.places ∧ t.net.places ≤ 9223372036854775807 := by
  have h' := h
  simp only [goodStg, goodMark, sigsB, Bool.and_eq_true, decide_eq_true_eq] at h'
  obtain ⟨⟨h1, _⟩, ⟨_, h3⟩, h4, _⟩ := h'
  simp only [goodNet, Bool.and_eq_true, decide_eq_true_eq] at h1
  have hsz : cntTrs s.net.trs ≤ szStg s := by
    have e : szNetD s.net = s.net.trs.length + cntTrs s.net.trs := rfl
    simp only [szStg]; omega
  rw [e1]
  have h12 := h1.1.2
  exact ⟨⟨⟨hsz, by omega⟩, by omega, by omega⟩, by omega, by omega⟩
theorem mirR_le (s : Stg) : ((cntTrs (mirR s).net.trs ≤ szStg s ∧ (mirR s).net.trs.length ≤ 24) ∧ (mirR s).signals.length ≤ 8 ∧ (mirR s).labels.length ≤ 24) ∧ -9223372036854775808 ≤ (mirR s).net.places ∧ (mirR s).net.places ≤ 9223372036854775807 := by
  cases hb : mirB s
  · rw [mirR_no hb]; simp [noStg, cntTrs]
  · rw [mirR_yes hb]
    simp only [mirB, Bool.and_eq_true] at hb
    exact stg_le hb.1 rfl (by simp) rfl
end Go.Proofs.Ytjfipianehabgaa
