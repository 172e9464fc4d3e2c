/- A valid graph is small; what the reading hands back. No condition. -/
import Derived.Test.YtcpjhpjlcgcigaaGreatDoorPrN
import Derived.Test.YtcpjhpjlcgcigaaGreatDoorPrB
import Derived.Test.YtcpjhpjlcgcigaaGreatDoorHelps
set_option linter.unusedSimpArgs false
set_option linter.unusedVariables false
namespace Go.Proofs.YtcpjhpjlcgcigaaGreatDoor
open Go.ChangeShapes Go.WideShapes Go.ChangeAt Go.RowKit

theorem rising_lenS {lo hi : Int} : ∀ {l : List Int} {x : Int}, risingFrom lo hi (some x) l = true → l.length ≤ (hi - x).toNat
  | [], _, _ => Nat.zero_le _
  | y :: l, x, h => by
    rw [risingFrom_cons, Bool.and_eq_true, Bool.and_eq_true] at h
    obtain ⟨⟨h1, h2⟩, h3⟩ := h
    have h1 := of_decide_eq_true h1
    have h2 : x < y := of_decide_eq_true h2
    have ih := rising_lenS h3
    simp only [List.length_cons]
    omega
theorem rising_len {hi : Int} {l : List Int} (h : risingL 0 hi l = true) (hh : hi ≤ 29) : l.length ≤ 30 := by
  cases l with
  | nil => exact Nat.zero_le _
  | cons y l =>
    rw [risingL, risingFrom_cons, Bool.and_eq_true, Bool.and_eq_true] at h
    obtain ⟨⟨h1, _⟩, h3⟩ := h
    have h1 := of_decide_eq_true h1
    have ih := rising_lenS h3
    simp only [List.length_cons]
    omega
theorem sum_le' {α : Type} {f : α → Nat} {c : Nat} : ∀ {l : List α}, (∀ x ∈ l, f x ≤ c) → (l.map f).sum ≤ l.length * c
  | [], _ => by simp
  | x :: l, h => by
    have h1 := h x (List.mem_cons_self ..)
    have h2 := sum_le' (l := l) fun y hy => h y (List.mem_cons_of_mem _ hy)
    simp only [List.map_cons, List.sum_cons, List.length_cons, Nat.succ_mul]
    omega
structure GoodSz (s : Stg) : Prop where
  trs : s.net.trs.length ≤ 24
  cnt : cntTrs s.net.trs ≤ 24 * 60
  sigs : s.signals.length ≤ 8
  labs : s.labels.length ≤ 24
  start : s.start.size ≤ 30
  pl : 1 ≤ s.net.places ∧ s.net.places ≤ 30
  sz : szStg s ≤ 1048576
theorem goodSz {s : Stg} (hg : goodStg s = true) : GoodSz s := by
  have hn := namesF hg
  have h := hg
  simp only [goodStg, goodMark, bitsB, sigsB, goodNet, Bool.and_eq_true, decide_eq_true_eq, Bool.not_eq_true', List.any_eq_false] at h
  obtain ⟨⟨⟨⟨h1, h2⟩, h3⟩, _, h4⟩, ⟨_, h5⟩, h6, _⟩ := h
  have hrow : ∀ t ∈ s.net.trs, t.pre.length + t.post.length ≤ 60 := by
    intro t ht
    have hb := h3 t ht
    simp only [badTr, Bool.not_eq_true, Bool.or_eq_false_iff, Bool.not_eq_false'] at hb
    have a1 := rising_len hb.1.2 (by omega)
    have a2 := rising_len hb.2 (by omega)
    omega
  have hc : cntTrs s.net.trs ≤ s.net.trs.length * 60 := sum_le' (f := fun t : Tr => t.pre.length + t.post.length) hrow
  have hs : (s.signals.map szSig).sum ≤ s.signals.length * 6 := sum_le' hn
  have e1 : szNetD s.net = s.net.trs.length + cntTrs s.net.trs := rfl
  have e2 : szSigs s.signals = s.signals.length + (s.signals.map szSig).sum := rfl
  have e3 : szLabs s.labels = s.labels.length := rfl
  have e4 : szStg s = szNetD s.net + szSigs s.signals + szLabs s.labels + s.start.size := rfl
  refine ⟨by omega, by omega, by omega, by omega, by omega, h1, by omega⟩
/-- What the reading hands back. -/
abbrev dPR (r : PR) : D := .tup [.agg [.lit (.int .i64 r.p.places), .own 0, .own 1, .own 2, .lit (.string r.p.start)], .lit (.int .i64 r.c), .lit (.int .i64 r.k), .lit (.bool r.ok)]
abbrev bPR (r : PR) : List Blk := [.arr 52 2 (r.p.trs.map dTr) true, .arr 71 2 (r.p.sigs.map dSig) true, .arr 49 2 (r.p.labs.map dLab) true]
section
variable {tab : Nat → Option TI} {s : St}
/-- No graph. -/
theorem retE_none {rs : Array ResultVar} {r : PR} {c k : Int} {ok : Bool} {c' k' ok' : Value} (h : retDE tab s rs.toList = some (.tup [.agg [.lit (.int .i64 0), .nil, .nil, .nil, .lit (.string ⟨#[]⟩)], .lit c', .lit k', .lit ok'])) (e : r = ⟨p0, c, k, ok⟩) (e1 : c' = .int .i64 c) (e2 : k' = .int .i64 k) (e3 : ok' = .bool ok) : RetE tab rs (dPR r) (bPR r) s := by
  subst e; subst e1; subst e2; subst e3
  exact ⟨_, [none, none, none], h, ⟨⟨rfl, rfl, rfl, rfl, rfl, trivial⟩, rfl, rfl, rfl, trivial⟩, ⟨rfl, rfl, rfl, trivial⟩, by simp⟩
/-- A graph. -/
theorem retE_some {rs : Array ResultVar} {r : PR} {p : PS} {i j l : Nat} (h : retDE tab s rs.toList = some (.tup [.agg [.lit (.int .i64 p.places), .own i, .own j, .own l, .lit (.string p.start)], .lit (.int .i64 0), .lit (.int .i64 0), .lit (.bool true)])) (hi : s.heap[i]? = some (.arr 52 2 (p.trs.map dTr) true)) (hj : s.heap[j]? = some (.arr 71 2 (p.sigs.map dSig) true)) (hl : s.heap[l]? = some (.arr 49 2 (p.labs.map dLab) true)) (hd : [i, j, l].Nodup) (e : r = ⟨p, 0, 0, true⟩) : RetE tab rs (dPR r) (bPR r) s := by
  subst e
  refine ⟨_, [some i, some j, some l], h, ⟨⟨rfl, rfl, rfl, rfl, rfl, trivial⟩, rfl, rfl, rfl, trivial⟩, ⟨hi, rfl, hj, rfl, hl, rfl, trivial⟩, by simpa using hd⟩
end
theorem asked_no {t : ByteArray} (h : ¬ (1 ≤ t.size ∧ t.size ≤ 4000 ∧ bAt t ((t.size : Int) - 1) = 10)) : askedP t = false := by rw [askedP, decide_eq_false h]
theorem asked_yes {t : ByteArray} (h : askedP t = true) : 1 ≤ t.size ∧ t.size ≤ 4000 ∧ bAt t ((t.size : Int) - 1) = 10 := by rw [askedP, decide_eq_true_eq] at h; exact h
theorem FnG.fn {P : Program} {f : FuncId} {ds : List D} {d : D} {rh : List Blk} (h : FnG (fun _ => True) P f ds d rh) : Fn P f ds d rh := ⟨h.plain, h.arrs, fun A w us hA hus => h.calls A w us trivial hA hus⟩
theorem empty_size {t : ByteArray} (h : ¬ t = ⟨#[]⟩) : 1 ≤ t.size := by
  apply Nat.pos_of_ne_zero
  intro h0
  exact h (by obtain ⟨⟨l⟩⟩ := t; cases l with | nil => rfl | cons a b => simp [ByteArray.size] at h0)
/-- No graph without places is valid. -/
theorem good_pl {s : Stg} (h : s.net.places = 0) : goodStg s = false := by
  cases hg : goodStg s
  · rfl
  · have := (goodSz hg).pl; omega
end Go.Proofs.YtcpjhpjlcgcigaaGreatDoor
