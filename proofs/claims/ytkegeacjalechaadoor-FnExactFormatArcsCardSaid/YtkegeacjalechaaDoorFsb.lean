/- Graphs as text: FormatSTG. No condition. -/
import Derived.Test.YtkegeacjalechaaDoorFst
set_option linter.unusedSimpArgs false
set_option linter.unusedVariables false
set_option maxHeartbeats 2000000
namespace Go.Proofs.YtkegeacjalechaaDoor
open Go.ChangeShapes Go.WideShapes Go.ChangeAt Go.RowKit

theorem kindsF {s : Stg} (hg : goodStg s = true) : ∀ x ∈ s.signals, 1 ≤ x.kind ∧ x.kind ≤ 3 := by
  have h := hg
  simp only [goodStg, sigsB, Bool.and_eq_true, decide_eq_true_eq] at h
  obtain ⟨_, ⟨h2, h3⟩, _, h4⟩ := h
  intro x hx
  obtain ⟨j, hj, rfl⟩ := List.getElem_of_mem hx
  have := (h2 j hj).1
  rw [nth_get hj] at this
  simp only [sigOk, Bool.and_eq_true, decide_eq_true_eq] at this
  exact this.2
def lineT (s : Stg) (k : Nat) : ByteArray := (((wordB s.signals (nth s.labels k).sig (nth s.labels k).up ++ numsB (nth s.net.trs k).pre) ++ ⟨#[32, 62]⟩) ++ numsB (nth s.net.trs k).post) ++ ⟨#[10]⟩
def headT (s : Stg) : ByteArray := (⟨#[115, 116, 97, 114, 116, 32]⟩ ++ s.start) ++ ⟨#[10]⟩
def fmtB (s : Stg) : Nat → ByteArray
  | 0 => sglB s.signals 3 ++ headT s
  | k + 1 => fmtB s k ++ lineT s k
structure LineF (s : Stg) (k : Nat) : Prop where
  w : (wordB s.signals (nth s.labels k).sig (nth s.labels k).up).size ≤ 7
  p : (numsB (nth s.net.trs k).pre).size ≤ 3145728
  wp : (wordB s.signals (nth s.labels k).sig (nth s.labels k).up ++ numsB (nth s.net.trs k).pre).size ≤ 3145735
  wpa : ((wordB s.signals (nth s.labels k).sig (nth s.labels k).up ++ numsB (nth s.net.trs k).pre) ++ ⟨#[32, 62]⟩).size ≤ 3145737
  q : (numsB (nth s.net.trs k).post).size ≤ 3145728
  wpq : (((wordB s.signals (nth s.labels k).sig (nth s.labels k).up ++ numsB (nth s.net.trs k).pre) ++ ⟨#[32, 62]⟩) ++ numsB (nth s.net.trs k).post).size ≤ 6291465
  t : (lineT s k).size ≤ 6291466
theorem lineF_of {s : Stg} (hg : goodStg s = true) (hz : szStg s ≤ 1048576) {k : Nat} (hk : k < s.net.trs.length) : LineF s k := by
  have hl := goodStg_len hg
  have h1 := wordB_size (wordOk_of hg k (by omega)) (nth s.labels k).up
  have hr := rowF_of hg hz (nth_mem hk)
  have h2 := numsB_size (nth s.net.trs k).pre _ (Nat.le_refl _)
  have h3 := numsB_size (nth s.net.trs k).post _ (Nat.le_refl _)
  rw [List.take_of_length_le (Nat.le_refl _)] at h2 h3
  have h4 := hr.pl
  have h5 := hr.ql
  have e1 : (⟨#[32, 62]⟩ : ByteArray).size = 2 := rfl
  have e2 : (⟨#[10]⟩ : ByteArray).size = 1 := rfl
  refine ⟨h1, by omega, ?_, ?_, by omega, ?_, ?_⟩
  · simp only [ByteArray.size_append]; omega
  · simp only [ByteArray.size_append]; omega
  · simp only [ByteArray.size_append]; omega
  · simp only [lineT, ByteArray.size_append]; omega
theorem headT_size (s : Stg) : (headT s).size = s.start.size + 7 := by
  have e1 : (⟨#[115, 116, 97, 114, 116, 32]⟩ : ByteArray).size = 6 := rfl
  have e2 : (⟨#[10]⟩ : ByteArray).size = 1 := rfl
  simp only [headT, ByteArray.size_append]; omega
theorem fmtB_size {s : Stg} (hg : goodStg s = true) (hz : szStg s ≤ 1048576) : ∀ k, k ≤ s.net.trs.length → (fmtB s k).size ≤ 2000000 + k * 6291466
  | 0, _ => by
    have hl := goodStg_len hg
    have h1 := sglB_size (namesF hg) 3
    have h2 := headT_size s
    have h3 := start_le s
    have h4 : 3 * (7 * s.signals.length + 6) ≤ 3 * (7 * 8 + 6) := Nat.mul_le_mul_left 3 (by omega)
    simp only [fmtB, ByteArray.size_append]; omega
  | k + 1, h => by
    have := fmtB_size hg hz k (by omega)
    have := (lineF_of hg hz (show k < s.net.trs.length by omega)).t
    simp only [fmtB, ByteArray.size_append]; omega
def fmOk (s : Stg) : Bool := goodStg s && srtB s.signals
def fmR (s : Stg) : ByteArray := if fmOk s then fmtB s s.net.trs.length else ⟨#[]⟩

set_option maxHeartbeats 4000000 in
theorem FormatSTG_g (s : Stg) (hz : szStg s ≤ 1048576) : FnG KW Tryd.prog 15 [.agg (dStg s)] (.tup [.lit (.string (fmR s)), .lit (.bool (fmOk s))]) [] := by
  refine FnG_of Tryd.func15 rfl (by kernel_rfl) rfl rfl ?_
  intro w0 A hX hin
  have hst := start_le s
  have hV := IsValidSTG_f s (by omega)
  cases hg : goodStg s <;> rw [hg] at hV
  · repeat' (first | refine goZ ?_ | refine R_callZ rfl (hV) rfl rfl rfl ?_ | refine R_callvZ rfl (hV) rfl rfl rfl rfl ?_ | refine D_callZ rfl (hV) rfl rfl rfl ?_ | ((first | refine R_cond rfl (fun hq => ?_) fun hq => ?_ | refine R_guardT rfl rfl rfl (fun hq => ?_) fun hq => ?_ | refine R_guardF rfl rfl rfl (fun hq => ?_) fun hq => ?_ | refine D_guardT rfl rfl rfl (fun hq => ?_) fun hq => ?_ | refine D_guardF rfl rfl rfl (fun hq => ?_) fun hq => ?_) <;> (try rw [hq]) <;> first | have hp := of_decide_eq_true hq | have hp := of_decide_eq_false hq | have hp := of_decide_eq_false (not_t hq) | have hp := of_decide_eq_true (not_f hq) | have hp := hq))
    exact ret_lit2 rfl (by simp [fmR, fmOk, hg]) (by simp [fmOk, hg])
  have hgl := goodStg_len hg
  have hS := signalLines_g s.signals (by omega) (namesF hg) (kindsF hg)
  cases hs : srtB s.signals <;> rw [hs] at hS
  · repeat' (first | refine goZ ?_ | refine R_callZ rfl (hV) rfl rfl rfl ?_ | refine R_callvZ rfl (hV) rfl rfl rfl rfl ?_ | refine R_callG (fun _ h => hX.ext h) rfl hS rfl rfl rfl ?_ | refine D_callZ rfl (hV) rfl rfl rfl ?_ | ((first | refine R_cond rfl (fun hq => ?_) fun hq => ?_ | refine R_guardT rfl rfl rfl (fun hq => ?_) fun hq => ?_ | refine R_guardF rfl rfl rfl (fun hq => ?_) fun hq => ?_ | refine D_guardT rfl rfl rfl (fun hq => ?_) fun hq => ?_ | refine D_guardF rfl rfl rfl (fun hq => ?_) fun hq => ?_) <;> (try rw [hq]) <;> first | have hp := of_decide_eq_true hq | have hp := of_decide_eq_false hq | have hp := of_decide_eq_false (not_t hq) | have hp := of_decide_eq_true (not_f hq) | have hp := hq))
    exact ret_lit2 rfl (by simp [fmR, fmOk, hg, hs]) (by simp [fmOk, hg, hs])
  have hR : sglR s.signals = sglB s.signals 3 := by simp [sglR, hs]
  rw [hR] at hS
  have hs1 := sglB_size (namesF hg) 3
  have hs2 : 3 * (7 * s.signals.length + 6) ≤ 3 * (7 * 8 + 6) := Nat.mul_le_mul_left 3 (by omega)
  have e1 : (⟨#[115, 116, 97, 114, 116, 32]⟩ : ByteArray).size = 6 := rfl
  have e2 : (⟨#[10]⟩ : ByteArray).size = 1 := rfl
  have e3 : ((⟨#[115, 116, 97, 114, 116, 32]⟩ : ByteArray) ++ s.start).size = s.start.size + 6 := by rw [ByteArray.size_append]; omega
  have e4 : (((⟨#[115, 116, 97, 114, 116, 32]⟩ : ByteArray) ++ s.start) ++ ⟨#[10]⟩).size = s.start.size + 7 := headT_size s
  have hzt := len_dTr s.net.trs
  have hzl := len_dLab s.labels
  repeat' (first | refine goZ ?_ | refine R_callZ rfl (hV) rfl rfl rfl ?_ | refine R_callvZ rfl (hV) rfl rfl rfl rfl ?_ | refine R_callG (fun _ h => hX.ext h) rfl hS rfl rfl rfl ?_ | refine D_callZ rfl (hV) rfl rfl rfl ?_ | ((first | refine R_cond rfl (fun hq => ?_) fun hq => ?_ | refine R_guardT rfl rfl rfl (fun hq => ?_) fun hq => ?_ | refine R_guardF rfl rfl rfl (fun hq => ?_) fun hq => ?_ | refine D_guardT rfl rfl rfl (fun hq => ?_) fun hq => ?_ | refine D_guardF rfl rfl rfl (fun hq => ?_) fun hq => ?_) <;> (try rw [hq]) <;> first | have hp := of_decide_eq_true hq | have hp := of_decide_eq_false hq | have hp := of_decide_eq_false (not_t hq) | have hp := of_decide_eq_true (not_f hq) | have hp := hq))
  refine W_loop (fun k : Nat => ⟨_, [(1, .ptr 0 0), (4, .lit (.string (fmtB s k))), (27, .sh 2 (s.net.trs.map dTr)), (28, .lit (.int .i64 s.net.trs.length)), (29, .lit (.int .i64 k))], [.cells 38 (dStg s)]⟩) (fun k => k ≤ s.net.trs.length) (fun k => s.net.trs.length - k) 0 (Nat.zero_le _) (weakZ []) ?_
  intro k hk
  have hfs := fmtB_size hg hz k hk
  have hk24 : k * 6291466 ≤ 24 * 6291466 := Nat.mul_le_mul_right _ (by omega)
  rcases Nat.lt_or_ge k s.net.trs.length with hlt | hge
  · obtain ⟨l1, l2, l3, l4, l5, l6, l7⟩ := lineF_of hg hz hlt
    have hr := rowF_of hg hz (nth_mem hlt)
    have hE := edgeText_f s.signals (nth s.labels k) (wordOk_of hg k (by omega))
    have hP := placesText_f (nth s.net.trs k).pre hr.pl hr.p
    have hQ := placesText_f (nth s.net.trs k).post hr.ql hr.q
    have e5 : (⟨#[32, 62]⟩ : ByteArray).size = 2 := rfl
    have l8 := l7
    simp only [lineT] at l8
    repeat' (first | refine goZ ?_ | refine R_callZ rfl (hE) rfl rfl rfl ?_ | refine R_callZ rfl (hP) rfl rfl rfl ?_ | refine R_callZ rfl (hQ) rfl rfl rfl ?_ | refine R_callvZ rfl (hE) rfl rfl rfl rfl ?_ | refine R_callvZ rfl (hP) rfl rfl rfl rfl ?_ | refine R_callvZ rfl (hQ) rfl rfl rfl rfl ?_ | refine D_callZ rfl (hE) rfl rfl rfl ?_ | refine D_callZ rfl (hP) rfl rfl rfl ?_ | refine D_callZ rfl (hQ) rfl rfl rfl ?_ | ((first | refine R_cond rfl (fun hq => ?_) fun hq => ?_ | refine R_guardT rfl rfl rfl (fun hq => ?_) fun hq => ?_ | refine R_guardF rfl rfl rfl (fun hq => ?_) fun hq => ?_ | refine D_guardT rfl rfl rfl (fun hq => ?_) fun hq => ?_ | refine D_guardF rfl rfl rfl (fun hq => ?_) fun hq => ?_) <;> (try rw [hq]) <;> first | have hp := of_decide_eq_true hq | have hp := of_decide_eq_false hq | have hp := of_decide_eq_false (not_t hq) | have hp := of_decide_eq_true (not_f hq) | have hp := hq))
    all_goals first
      | (exfalso; omega)
      | exact ⟨k + 1, by omega, by omega, weakZ _⟩
  · obtain rfl : k = s.net.trs.length := by omega
    repeat' (first | refine goZ ?_ | ((first | refine R_cond rfl (fun hq => ?_) fun hq => ?_ | refine R_guardT rfl rfl rfl (fun hq => ?_) fun hq => ?_ | refine R_guardF rfl rfl rfl (fun hq => ?_) fun hq => ?_ | refine D_guardT rfl rfl rfl (fun hq => ?_) fun hq => ?_ | refine D_guardF rfl rfl rfl (fun hq => ?_) fun hq => ?_) <;> (try rw [hq]) <;> first | have hp := of_decide_eq_true hq | have hp := of_decide_eq_false hq | have hp := of_decide_eq_false (not_t hq) | have hp := of_decide_eq_true (not_f hq) | have hp := hq))
    all_goals first
      | (exfalso; omega)
      | exact ret_lit2 rfl (by simp [fmR, fmOk, hg, hs]) (by simp [fmOk, hg, hs])

set_option maxHeartbeats 4000000 in
theorem l3Text_f (s : Stg) (hg : goodStg s = true) (hz : szStg s ≤ 1048576) : Fn Tryd.prog 34 [.agg (dStg s)] (.lit (.string (fmtB s s.net.trs.length))) [] := by
  refine Fn_of Tryd.func34 rfl (by kernel_rfl) rfl rfl ?_
  intro w0 A hin
  have hst := start_le s
  have hgl := goodStg_len hg
  have hS := l3Signals_f s (by omega) (namesF hg)
  have hs1 := sglB_size (namesF hg) 3
  have hs2 : 3 * (7 * s.signals.length + 6) ≤ 3 * (7 * 8 + 6) := Nat.mul_le_mul_left 3 (by omega)
  have e1 : (⟨#[115, 116, 97, 114, 116, 32]⟩ : ByteArray).size = 6 := rfl
  have e2 : (⟨#[10]⟩ : ByteArray).size = 1 := rfl
  have e3 : (sglB s.signals 3 ++ ⟨#[115, 116, 97, 114, 116, 32]⟩).size ≤ 1000 := by rw [ByteArray.size_append]; omega
  have e4 : ((sglB s.signals 3 ++ ⟨#[115, 116, 97, 114, 116, 32]⟩) ++ s.start).size ≤ 1000 + s.start.size := by rw [ByteArray.size_append]; omega
  have hzt := len_dTr s.net.trs
  have hzl := len_dLab s.labels
  repeat' (first | refine goZ ?_ | refine R_callZ rfl (hS) rfl rfl rfl ?_ | refine R_callvZ rfl (hS) rfl rfl rfl rfl ?_ | refine D_callZ rfl (hS) rfl rfl rfl ?_ | ((first | refine R_cond rfl (fun hq => ?_) fun hq => ?_ | refine R_guardT rfl rfl rfl (fun hq => ?_) fun hq => ?_ | refine R_guardF rfl rfl rfl (fun hq => ?_) fun hq => ?_ | refine D_guardT rfl rfl rfl (fun hq => ?_) fun hq => ?_ | refine D_guardF rfl rfl rfl (fun hq => ?_) fun hq => ?_) <;> (try rw [hq]) <;> first | have hp := of_decide_eq_true hq | have hp := of_decide_eq_false hq | have hp := of_decide_eq_false (not_t hq) | have hp := of_decide_eq_true (not_f hq) | have hp := hq))
  refine W_loop (fun k : Nat => ⟨_, [(1, .ptr 0 0), (3, .lit (.string (fmtB s k))), (15, .sh 2 (s.net.trs.map dTr)), (16, .lit (.int .i64 s.net.trs.length)), (17, .lit (.int .i64 k))], [.cells 38 (dStg s)]⟩) (fun k => k ≤ s.net.trs.length) (fun k => s.net.trs.length - k) 0 (Nat.zero_le _) (by
    have e : fmtB s 0 = ((sglB s.signals 3 ++ ⟨#[115, 116, 97, 114, 116, 32]⟩) ++ s.start) ++ ⟨#[10]⟩ := by simp only [fmtB, headT, ByteArray.append_assoc]
    rw [e]; exact weakZ []) ?_
  intro k hk
  have hfs := fmtB_size hg hz k hk
  have hk24 : k * 6291466 ≤ 24 * 6291466 := Nat.mul_le_mul_right _ (by omega)
  rcases Nat.lt_or_ge k s.net.trs.length with hlt | hge
  · obtain ⟨l1, l2, l3, l4, l5, l6, l7⟩ := lineF_of hg hz hlt
    have hr := rowF_of hg hz (nth_mem hlt)
    have hE := l2Word_f s (nth s.labels k) (wordOk_of hg k (by omega))
    have hP := l3Nums_f (nth s.net.trs k).pre hr.pl hr.p
    have hQ := l3Nums_f (nth s.net.trs k).post hr.ql hr.q
    have e5 : (⟨#[32, 62]⟩ : ByteArray).size = 2 := rfl
    have l8 := l7
    simp only [lineT] at l8
    repeat' (first | refine goZ ?_ | refine R_callZ rfl (hE) rfl rfl rfl ?_ | refine R_callZ rfl (hP) rfl rfl rfl ?_ | refine R_callZ rfl (hQ) rfl rfl rfl ?_ | refine R_callvZ rfl (hE) rfl rfl rfl rfl ?_ | refine R_callvZ rfl (hP) rfl rfl rfl rfl ?_ | refine R_callvZ rfl (hQ) rfl rfl rfl rfl ?_ | refine D_callZ rfl (hE) rfl rfl rfl ?_ | refine D_callZ rfl (hP) rfl rfl rfl ?_ | refine D_callZ rfl (hQ) rfl rfl rfl ?_ | ((first | refine R_cond rfl (fun hq => ?_) fun hq => ?_ | refine R_guardT rfl rfl rfl (fun hq => ?_) fun hq => ?_ | refine R_guardF rfl rfl rfl (fun hq => ?_) fun hq => ?_ | refine D_guardT rfl rfl rfl (fun hq => ?_) fun hq => ?_ | refine D_guardF rfl rfl rfl (fun hq => ?_) fun hq => ?_) <;> (try rw [hq]) <;> first | have hp := of_decide_eq_true hq | have hp := of_decide_eq_false hq | have hp := of_decide_eq_false (not_t hq) | have hp := of_decide_eq_true (not_f hq) | have hp := hq))
    all_goals first
      | (exfalso; omega)
      | exact ⟨k + 1, by omega, by omega, weakZ _⟩
  · obtain rfl : k = s.net.trs.length := by omega
    repeat' (first | refine goZ ?_ | ((first | refine R_cond rfl (fun hq => ?_) fun hq => ?_ | refine R_guardT rfl rfl rfl (fun hq => ?_) fun hq => ?_ | refine R_guardF rfl rfl rfl (fun hq => ?_) fun hq => ?_ | refine D_guardT rfl rfl rfl (fun hq => ?_) fun hq => ?_ | refine D_guardF rfl rfl rfl (fun hq => ?_) fun hq => ?_) <;> (try rw [hq]) <;> first | have hp := of_decide_eq_true hq | have hp := of_decide_eq_false hq | have hp := of_decide_eq_false (not_t hq) | have hp := of_decide_eq_true (not_f hq) | have hp := hq))
    all_goals first
      | (exfalso; omega)
      | exact ret_lit rfl rfl

theorem specFormatSTG_f (s : Stg) (hz : szStg s ≤ 1048576) : Fn Tryd.prog 14 [.agg (dStg s)] (.tup [.lit (.string (fmR s)), .lit (.bool (fmOk s))]) [] := by
  refine Fn_of Tryd.func14 rfl (by kernel_rfl) rfl rfl ?_
  intro w0 A hin
  have hst := start_le s
  have hV := l2Good_f s (by omega)
  cases hg : goodStg s <;> rw [hg] at hV
  · repeat' (first | refine goZ ?_ | refine R_callZ rfl (hV) rfl rfl rfl ?_ | refine R_callvZ rfl (hV) rfl rfl rfl rfl ?_ | refine D_callZ rfl (hV) rfl rfl rfl ?_ | ((first | refine R_cond rfl (fun hq => ?_) fun hq => ?_ | refine R_guardT rfl rfl rfl (fun hq => ?_) fun hq => ?_ | refine R_guardF rfl rfl rfl (fun hq => ?_) fun hq => ?_ | refine D_guardT rfl rfl rfl (fun hq => ?_) fun hq => ?_ | refine D_guardF rfl rfl rfl (fun hq => ?_) fun hq => ?_) <;> (try rw [hq]) <;> first | have hp := of_decide_eq_true hq | have hp := of_decide_eq_false hq | have hp := of_decide_eq_false (not_t hq) | have hp := of_decide_eq_true (not_f hq) | have hp := hq))
    exact ret_lit2 rfl (by simp [fmR, fmOk, hg]) (by simp [fmOk, hg])
  have hgl := goodStg_len hg
  have hK := l3Kinds_f s (by omega)
  have hT := l3Text_f s hg hz
  cases hs : srtB s.signals <;> rw [hs] at hK
  · repeat' (first | refine goZ ?_ | refine R_callZ rfl (hV) rfl rfl rfl ?_ | refine R_callZ rfl (hK) rfl rfl rfl ?_ | refine R_callvZ rfl (hV) rfl rfl rfl rfl ?_ | refine R_callvZ rfl (hK) rfl rfl rfl rfl ?_ | refine D_callZ rfl (hV) rfl rfl rfl ?_ | refine D_callZ rfl (hK) rfl rfl rfl ?_ | ((first | refine R_cond rfl (fun hq => ?_) fun hq => ?_ | refine R_guardT rfl rfl rfl (fun hq => ?_) fun hq => ?_ | refine R_guardF rfl rfl rfl (fun hq => ?_) fun hq => ?_ | refine D_guardT rfl rfl rfl (fun hq => ?_) fun hq => ?_ | refine D_guardF rfl rfl rfl (fun hq => ?_) fun hq => ?_) <;> (try rw [hq]) <;> first | have hp := of_decide_eq_true hq | have hp := of_decide_eq_false hq | have hp := of_decide_eq_false (not_t hq) | have hp := of_decide_eq_true (not_f hq) | have hp := hq))
    exact ret_lit2 rfl (by simp [fmR, fmOk, hg, hs]) (by simp [fmOk, hg, hs])
  repeat' (first | refine goZ ?_ | refine R_callZ rfl (hV) rfl rfl rfl ?_ | refine R_callZ rfl (hK) rfl rfl rfl ?_ | refine R_callZ rfl (hT) rfl rfl rfl ?_ | refine R_callvZ rfl (hV) rfl rfl rfl rfl ?_ | refine R_callvZ rfl (hK) rfl rfl rfl rfl ?_ | refine R_callvZ rfl (hT) rfl rfl rfl rfl ?_ | refine D_callZ rfl (hV) rfl rfl rfl ?_ | refine D_callZ rfl (hK) rfl rfl rfl ?_ | refine D_callZ rfl (hT) rfl rfl rfl ?_ | ((first | refine R_cond rfl (fun hq => ?_) fun hq => ?_ | refine R_guardT rfl rfl rfl (fun hq => ?_) fun hq => ?_ | refine R_guardF rfl rfl rfl (fun hq => ?_) fun hq => ?_ | refine D_guardT rfl rfl rfl (fun hq => ?_) fun hq => ?_ | refine D_guardF rfl rfl rfl (fun hq => ?_) fun hq => ?_) <;> (try rw [hq]) <;> first | have hp := of_decide_eq_true hq | have hp := of_decide_eq_false hq | have hp := of_decide_eq_false (not_t hq) | have hp := of_decide_eq_true (not_f hq) | have hp := hq))
  exact ret_lit2 rfl (by simp [fmR, fmOk, hg, hs]) (by simp [fmOk, hg, hs])
end Go.Proofs.YtkegeacjalechaaDoor
