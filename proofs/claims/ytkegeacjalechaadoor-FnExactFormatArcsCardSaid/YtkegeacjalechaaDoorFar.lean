/- Marked graphs as text, and FormatArcs. No condition. -/
import Derived.Test.YtkegeacjalechaaDoorFsb
set_option linter.unusedSimpArgs false
set_option linter.unusedVariables false
set_option maxHeartbeats 2000000
namespace Go.Proofs.YtkegeacjalechaaDoor
open Go.ChangeShapes Go.WideShapes Go.ChangeAt Go.RowKit

def mgP (s : Stg) (k : Nat) : Bool := decide ((useL s.net (k : Int) true).length = 1) && decide ((useL s.net (k : Int) false).length = 1)
def mgA (s : Stg) : Bool := (List.range s.net.places.toNat).all (mgP s)
def mgB (s : Stg) : Bool := goodStg s && mgA s
theorem mgA_no {s : Stg} {k : Nat} (hk : (k : Int) < s.net.places) (h : mgP s k = false) : mgA s = false :=
  List.all_eq_false.2 ⟨k, List.mem_range.2 (by omega), by rw [h]; simp⟩
theorem mgA_yes {s : Stg} {k : Nat} (hk : ¬ (k : Int) < s.net.places) (h : ∀ j, j < k → mgP s j = true) : mgA s = true :=
  List.all_eq_true.2 fun j hj => h j (by have := List.mem_range.1 hj; omega)
theorem mgA_at {s : Stg} (h : mgA s = true) {k : Nat} (hk : (k : Int) < s.net.places) : (useL s.net (k : Int) true).length = 1 ∧ (useL s.net (k : Int) false).length = 1 := by
  have := List.all_eq_true.1 h k (List.mem_range.2 (by omega))
  simpa [mgP] using this

theorem IsMarkedGraph_f (s : Stg) (hs : s.start.size ≤ 1048576) : Fn Tryd.prog 40 [.agg (dStg s)] (.tup [.lit (.bool (mgB s)), .lit (.bool (goodStg s))]) [] := by
  refine Fn_of Tryd.func40 rfl (by kernel_rfl) rfl rfl ?_
  intro w0 A hin
  have hV := IsValidSTG_f s hs
  cases hg : goodStg s <;> rw [hg] at hV
  · repeat' (first | refine goZ ?_ | refine R_callZ rfl (hV) rfl rfl rfl ?_ | refine R_callvZ rfl (hV) rfl rfl rfl rfl ?_ | refine D_callZ rfl (hV) rfl rfl rfl ?_ | ((first | refine R_cond rfl (fun hq => ?_) fun hq => ?_ | refine R_guardT rfl rfl rfl (fun hq => ?_) fun hq => ?_ | refine R_guardF rfl rfl rfl (fun hq => ?_) fun hq => ?_ | refine D_guardT rfl rfl rfl (fun hq => ?_) fun hq => ?_ | refine D_guardF rfl rfl rfl (fun hq => ?_) fun hq => ?_) <;> (try rw [hq]) <;> first | have hp := of_decide_eq_true hq | have hp := of_decide_eq_false hq | have hp := of_decide_eq_false (not_t hq) | have hp := of_decide_eq_true (not_f hq) | have hp := hq))
    exact ret_lit2 rfl (by simp [mgB, hg]) rfl
  · have hb := goodStg_len hg
    repeat' (first | refine goZ ?_ | refine R_callZ rfl (hV) rfl rfl rfl ?_ | refine R_callvZ rfl (hV) rfl rfl rfl rfl ?_ | refine D_callZ rfl (hV) rfl rfl rfl ?_ | ((first | refine R_cond rfl (fun hq => ?_) fun hq => ?_ | refine R_guardT rfl rfl rfl (fun hq => ?_) fun hq => ?_ | refine R_guardF rfl rfl rfl (fun hq => ?_) fun hq => ?_ | refine D_guardT rfl rfl rfl (fun hq => ?_) fun hq => ?_ | refine D_guardF rfl rfl rfl (fun hq => ?_) fun hq => ?_) <;> (try rw [hq]) <;> first | have hp := of_decide_eq_true hq | have hp := of_decide_eq_false hq | have hp := of_decide_eq_false (not_t hq) | have hp := of_decide_eq_true (not_f hq) | have hp := hq))
    refine W_loop (fun k : Nat => ⟨_, [(1, .ptr 0 0), (12, .lit (.int .i64 s.net.places)), (13, .lit (.int .i64 k))], [.cells 38 (dStg s)]⟩) (fun k => (k : Int) ≤ s.net.places ∧ ∀ j, j < k → mgP s j = true) (fun k => s.net.places.toNat - k) 0 ⟨by omega, by omega⟩ (weakZ []) ?_
    rintro k ⟨hk, hj⟩
    have hz1 := len_ints (useL s.net (k : Int) false)
    have hz2 := len_ints (useL s.net (k : Int) true)
    repeat' (first | refine goZ ?_ | refine R_callZ rfl (users_f s.net k (by omega)) rfl rfl rfl ?_ | refine R_callvZ rfl (users_f s.net k (by omega)) rfl rfl rfl rfl ?_ | refine D_callZ rfl (users_f s.net k (by omega)) rfl rfl rfl ?_ | ((first | refine R_cond rfl (fun hq => ?_) fun hq => ?_ | refine R_guardT rfl rfl rfl (fun hq => ?_) fun hq => ?_ | refine R_guardF rfl rfl rfl (fun hq => ?_) fun hq => ?_ | refine D_guardT rfl rfl rfl (fun hq => ?_) fun hq => ?_ | refine D_guardF rfl rfl rfl (fun hq => ?_) fun hq => ?_) <;> (try rw [hq]) <;> first | have hp := of_decide_eq_true hq | have hp := of_decide_eq_false hq | have hp := of_decide_eq_false (not_t hq) | have hp := of_decide_eq_true (not_f hq) | have hp := hq))
    · exact ret_lit2 rfl (by rw [mgB, mgA_no (show (k : Int) < s.net.places by omega) (by rw [mgP, Bool.and_eq_false_iff, decide_eq_false_iff_not, decide_eq_false_iff_not]; omega), Bool.and_false]) rfl
    · exact ⟨k + 1, ⟨by omega, fun j hj' => by
      by_cases e : j = k
      · rw [e, mgP, Bool.and_eq_true, decide_eq_true_eq, decide_eq_true_eq]; omega
      · exact hj j (by omega)⟩, by omega, weakZ _⟩
    · exact ret_lit2 rfl (by rw [mgB, mgA_no (show (k : Int) < s.net.places by omega) (by rw [mgP, Bool.and_eq_false_iff, decide_eq_false_iff_not, decide_eq_false_iff_not]; omega), Bool.and_false]) rfl
    · exact ret_lit2 rfl (by rw [mgB, hg, mgA_yes (show ¬ (k : Int) < s.net.places by omega) hj]; rfl) rfl

theorem l3Marked_f (s : Stg) (hg : goodStg s = true) : Fn Tryd.prog 38 [.agg (dStg s)] (.lit (.bool (mgA s))) [] := by
  refine Fn_of Tryd.func38 rfl (by kernel_rfl) rfl rfl ?_
  intro w0 A hin
  have hb := goodStg_len hg
  repeat' (first | refine goZ ?_ | ((first | refine R_cond rfl (fun hq => ?_) fun hq => ?_ | refine R_guardT rfl rfl rfl (fun hq => ?_) fun hq => ?_ | refine R_guardF rfl rfl rfl (fun hq => ?_) fun hq => ?_ | refine D_guardT rfl rfl rfl (fun hq => ?_) fun hq => ?_ | refine D_guardF rfl rfl rfl (fun hq => ?_) fun hq => ?_) <;> (try rw [hq]) <;> first | have hp := of_decide_eq_true hq | have hp := of_decide_eq_false hq | have hp := of_decide_eq_false (not_t hq) | have hp := of_decide_eq_true (not_f hq) | have hp := hq))
  refine W_loop (fun k : Nat => ⟨_, [(1, .ptr 0 0), (3, .lit (.int .i64 k))], [.cells 38 (dStg s)]⟩) (fun k => (k : Int) ≤ s.net.places ∧ ∀ j, j < k → mgP s j = true) (fun k => s.net.places.toNat - k) 0 ⟨by omega, by omega⟩ (weakZ []) ?_
  rintro k ⟨hk, hj⟩
  have hz1 := len_ints (useL s.net (k : Int) false)
  have hz2 := len_ints (useL s.net (k : Int) true)
  repeat' (first | refine goZ ?_ | refine R_callZ rfl (l3Of_f s _ _ (by omega)) rfl rfl rfl ?_ | refine R_callvZ rfl (l3Of_f s _ _ (by omega)) rfl rfl rfl rfl ?_ | refine D_callZ rfl (l3Of_f s _ _ (by omega)) rfl rfl rfl ?_ | ((first | refine R_cond rfl (fun hq => ?_) fun hq => ?_ | refine R_guardT rfl rfl rfl (fun hq => ?_) fun hq => ?_ | refine R_guardF rfl rfl rfl (fun hq => ?_) fun hq => ?_ | refine D_guardT rfl rfl rfl (fun hq => ?_) fun hq => ?_ | refine D_guardF rfl rfl rfl (fun hq => ?_) fun hq => ?_) <;> (try rw [hq]) <;> first | have hp := of_decide_eq_true hq | have hp := of_decide_eq_false hq | have hp := of_decide_eq_false (not_t hq) | have hp := of_decide_eq_true (not_f hq) | have hp := hq))
  · exact ret_bool' rfl (by rw [mgA_no (show (k : Int) < s.net.places by omega) (by rw [mgP, Bool.and_eq_false_iff, decide_eq_false_iff_not, decide_eq_false_iff_not]; omega)])
  · exact ⟨k + 1, ⟨by omega, fun j hj' => by
      by_cases e : j = k
      · rw [e, mgP, Bool.and_eq_true, decide_eq_true_eq, decide_eq_true_eq]; omega
      · exact hj j (by omega)⟩, by omega, weakZ _⟩
  · exact ret_bool' rfl (by rw [mgA_no (show (k : Int) < s.net.places by omega) (by rw [mgP, Bool.and_eq_false_iff, decide_eq_false_iff_not, decide_eq_false_iff_not]; omega)])
  · exact ret_bool' rfl (by rw [mgA_yes (show ¬ (k : Int) < s.net.places by omega) hj])

/-- The transition that has a place in Post, or in Pre, where it is the one. -/
def arcT (s : Stg) (k : Nat) (post : Bool) : Int := nth (useL s.net (k : Int) post) 0
theorem arcT_lt {s : Stg} {k : Nat} {post : Bool} (h : (useL s.net (k : Int) post).length = 1) : 0 ≤ arcT s k post ∧ arcT s k post < s.net.trs.length := by
  have hm : arcT s k post ∈ useL s.net (k : Int) post := nth_mem (by omega)
  simp only [useL, pickN, List.mem_map, List.mem_filter, List.mem_range] at hm
  obtain ⟨i, ⟨h1, _⟩, h2⟩ := hm
  rw [← h2]; omega
def arcB (s : Stg) (k : Nat) : ByteArray := (tnmB s (arcT s k true).toNat ++ ⟨#[32]⟩) ++ tnmB s (arcT s k false).toNat
def starB (s : Stg) (k : Nat) : Bool := decide (bAt s.start k = 49)
def arcsB (s : Stg) : Nat → ByteArray
  | 0 => sglB s.signals 3
  | k + 1 => (if starB s k then (arcsB s k ++ arcB s k) ++ ⟨#[32, 42]⟩ else arcsB s k ++ arcB s k) ++ ⟨#[10]⟩
structure ArcF (s : Stg) (k : Nat) : Prop where
  p : (tnmB s (arcT s k true).toNat).size ≤ 10
  q : (tnmB s (arcT s k false).toNat).size ≤ 10
  a : (tnmB s (arcT s k true).toNat ++ ⟨#[32]⟩).size ≤ 11
  t : ((tnmB s (arcT s k true).toNat ++ ⟨#[32]⟩) ++ tnmB s (arcT s k false).toNat).size ≤ 21
theorem arcF_of {s : Stg} (hg : goodStg s = true) (hm : mgA s = true) {k : Nat} (hk : (k : Int) < s.net.places) : ArcF s k := by
  have hl := goodStg_len hg
  obtain ⟨h1, h2⟩ := mgA_at hm hk
  have a1 := arcT_lt h1
  have a2 := arcT_lt h2
  have b1 := tnmB_size hg (t := (arcT s k true).toNat) (by omega)
  have b2 := tnmB_size hg (t := (arcT s k false).toNat) (by omega)
  have e1 : (⟨#[32]⟩ : ByteArray).size = 1 := rfl
  refine ⟨b1, b2, ?_, ?_⟩
  · simp only [ByteArray.size_append]; omega
  · simp only [ByteArray.size_append]; omega
theorem arcsB_size {s : Stg} (hg : goodStg s = true) (hm : mgA s = true) : ∀ k : Nat, (k : Int) ≤ s.net.places → (arcsB s k).size ≤ 1000 + k * 24
  | 0, _ => by
    have hl := goodStg_len hg
    have h1 := sglB_size (namesF hg) 3
    have h4 : 3 * (7 * s.signals.length + 6) ≤ 3 * (7 * 8 + 6) := Nat.mul_le_mul_left 3 (by omega)
    simp only [arcsB]; omega
  | k + 1, h => by
    have := arcsB_size hg hm k (by omega)
    have := (arcF_of hg hm (show (k : Int) < s.net.places by omega)).t
    have e1 : (⟨#[32, 42]⟩ : ByteArray).size = 2 := rfl
    have e2 : (⟨#[10]⟩ : ByteArray).size = 1 := rfl
    have e3 : (arcB s k).size ≤ 21 := this
    simp only [arcsB]
    split <;> simp only [ByteArray.size_append] <;> omega
def faOk (s : Stg) : Bool := goodStg s && (srtB s.signals && mgA s)
def faR (s : Stg) : ByteArray := if faOk s then arcsB s s.net.places.toNat else ⟨#[]⟩

set_option maxHeartbeats 4000000 in
theorem FormatArcs_g (s : Stg) (hz : szStg s ≤ 1048576) : FnG KW Tryd.prog 17 [.agg (dStg s)] (.tup [.lit (.string (faR s)), .lit (.bool (faOk s))]) [] := by
  refine FnG_of Tryd.func17 rfl (by kernel_rfl) rfl rfl ?_
  intro w0 A hX hin
  have hst := start_le s
  have hM := IsMarkedGraph_f s (by omega)
  have hF := FormatSTG_g s hz
  cases hg : goodStg s
  · rw [show mgB s = false by simp [mgB, hg]] at hM
    rw [show fmOk s = false by simp [fmOk, hg]] at hF
    repeat' (first | refine goZ ?_ | refine R_callZ rfl (hM) rfl rfl rfl ?_ | refine R_callvZ rfl (hM) rfl rfl rfl rfl ?_ | refine R_callG (fun _ h => hX.ext h) rfl hF rfl rfl rfl ?_ | refine D_callZ rfl (hM) rfl rfl rfl ?_ | ((first | refine R_cond rfl (fun hq => ?_) fun hq => ?_ | refine R_guardT rfl rfl rfl (fun hq => ?_) fun hq => ?_ | refine R_guardF rfl rfl rfl (fun hq => ?_) fun hq => ?_ | refine D_guardT rfl rfl rfl (fun hq => ?_) fun hq => ?_ | refine D_guardF rfl rfl rfl (fun hq => ?_) fun hq => ?_) <;> (try rw [hq]) <;> first | have hp := of_decide_eq_true hq | have hp := of_decide_eq_false hq | have hp := of_decide_eq_false (not_t hq) | have hp := of_decide_eq_true (not_f hq) | have hp := hq))
    exact ret_lit2 rfl (by simp [faR, faOk, hg]) (by simp [faOk, hg])
  have hgl := goodStg_len hg
  cases hm : mgA s
  · rw [show mgB s = false by simp [mgB, hm]] at hM
    repeat' (first | refine goZ ?_ | refine R_callZ rfl (hM) rfl rfl rfl ?_ | refine R_callvZ rfl (hM) rfl rfl rfl rfl ?_ | refine R_callG (fun _ h => hX.ext h) rfl hF rfl rfl rfl ?_ | refine D_callZ rfl (hM) rfl rfl rfl ?_ | ((first | refine R_cond rfl (fun hq => ?_) fun hq => ?_ | refine R_guardT rfl rfl rfl (fun hq => ?_) fun hq => ?_ | refine R_guardF rfl rfl rfl (fun hq => ?_) fun hq => ?_ | refine D_guardT rfl rfl rfl (fun hq => ?_) fun hq => ?_ | refine D_guardF rfl rfl rfl (fun hq => ?_) fun hq => ?_) <;> (try rw [hq]) <;> first | have hp := of_decide_eq_true hq | have hp := of_decide_eq_false hq | have hp := of_decide_eq_false (not_t hq) | have hp := of_decide_eq_true (not_f hq) | have hp := hq))
    exact ret_lit2 rfl (by simp [faR, faOk, hm]) (by simp [faOk, hm])
  rw [show mgB s = true by simp [mgB, hg, hm]] at hM
  cases hs : srtB s.signals
  · rw [show fmOk s = false by simp [fmOk, hs]] at hF
    repeat' (first | refine goZ ?_ | refine R_callZ rfl (hM) rfl rfl rfl ?_ | refine R_callvZ rfl (hM) rfl rfl rfl rfl ?_ | refine R_callG (fun _ h => hX.ext h) rfl hF rfl rfl rfl ?_ | refine D_callZ rfl (hM) rfl rfl rfl ?_ | ((first | refine R_cond rfl (fun hq => ?_) fun hq => ?_ | refine R_guardT rfl rfl rfl (fun hq => ?_) fun hq => ?_ | refine R_guardF rfl rfl rfl (fun hq => ?_) fun hq => ?_ | refine D_guardT rfl rfl rfl (fun hq => ?_) fun hq => ?_ | refine D_guardF rfl rfl rfl (fun hq => ?_) fun hq => ?_) <;> (try rw [hq]) <;> first | have hp := of_decide_eq_true hq | have hp := of_decide_eq_false hq | have hp := of_decide_eq_false (not_t hq) | have hp := of_decide_eq_true (not_f hq) | have hp := hq))
    exact ret_lit2 rfl (by simp [faR, faOk, hs]) (by simp [faOk, hs])
  rw [show fmOk s = true by simp [fmOk, hg, hs]] at hF
  have hS := signalLines_g s.signals (by omega) (namesF hg) (kindsF hg)
  rw [show sglR s.signals = sglB s.signals 3 by simp [sglR, hs], hs] at hS
  repeat' (first | refine goZ ?_ | refine R_callZ rfl (hM) rfl rfl rfl ?_ | refine R_callvZ rfl (hM) rfl rfl rfl rfl ?_ | refine R_callG (fun _ h => hX.ext h) rfl hF rfl rfl rfl ?_ | refine R_callG (fun _ h => hX.ext h) rfl hS rfl rfl rfl ?_ | refine D_callZ rfl (hM) rfl rfl rfl ?_ | ((first | refine R_cond rfl (fun hq => ?_) fun hq => ?_ | refine R_guardT rfl rfl rfl (fun hq => ?_) fun hq => ?_ | refine R_guardF rfl rfl rfl (fun hq => ?_) fun hq => ?_ | refine D_guardT rfl rfl rfl (fun hq => ?_) fun hq => ?_ | refine D_guardF rfl rfl rfl (fun hq => ?_) fun hq => ?_) <;> (try rw [hq]) <;> first | have hp := of_decide_eq_true hq | have hp := of_decide_eq_false hq | have hp := of_decide_eq_false (not_t hq) | have hp := of_decide_eq_true (not_f hq) | have hp := hq))
  refine W_loop (fun k : Nat => ⟨_, [(1, .ptr 0 0), (8, .lit (.string (arcsB s k))), (37, .lit (.int .i64 s.net.places)), (38, .lit (.int .i64 k))], [.cells 38 (dStg s)]⟩) (fun k => (k : Int) ≤ s.net.places) (fun k => s.net.places.toNat - k) 0 (by omega) (weakZ []) ?_
  rintro k hk
  have hfs := arcsB_size hg hm k hk
  have hpl : s.net.places ≤ 40 := hgl.2.2.2.2.2
  have hss : (s.start.size : Int) = s.net.places := by
    have h' := hg
    simp only [goodStg, goodMark, bitsB, Bool.and_eq_true, decide_eq_true_eq] at h'
    omega
  rcases Decidable.em ((k : Int) < s.net.places) with hlt | hge
  · obtain ⟨l1, l2, l3, l4⟩ := arcF_of hg hm hlt
    obtain ⟨u1, u2⟩ := mgA_at hm hlt
    have hz1 := len_ints (useL s.net (k : Int) false)
    have hz2 := len_ints (useL s.net (k : Int) true)
    have a1 := arcT_lt u1
    have a2 := arcT_lt u2
    have hP := transitionName_f s (arcT s k true).toNat hg (by omega)
    have hQ := transitionName_f s (arcT s k false).toNat hg (by omega)
    rw [show (((arcT s k true).toNat : Nat) : Int) = arcT s k true by omega] at hP
    rw [show (((arcT s k false).toNat : Nat) : Int) = arcT s k false by omega] at hQ
    have e1 : (⟨#[32]⟩ : ByteArray).size = 1 := rfl
    have e2 : (⟨#[32, 42]⟩ : ByteArray).size = 2 := rfl
    have e3 : (⟨#[10]⟩ : ByteArray).size = 1 := rfl
    have l5 : (arcsB s k ++ arcB s k).size ≤ 2100 := by
      have : (arcB s k).size ≤ 21 := l4
      rw [ByteArray.size_append]; omega
    have l6 : ((arcsB s k ++ arcB s k) ++ ⟨#[32, 42]⟩).size ≤ 2102 := by rw [ByteArray.size_append]; omega
    simp only [arcB] at l5 l6
    repeat' (first | refine goZ ?_ | refine R_callZ rfl (users_f s.net k (by omega)) rfl rfl rfl ?_ | refine R_callZ rfl (hP) rfl rfl rfl ?_ | refine R_callZ rfl (hQ) rfl rfl rfl ?_ | refine R_callvZ rfl (users_f s.net k (by omega)) rfl rfl rfl rfl ?_ | refine R_callvZ rfl (hP) rfl rfl rfl rfl ?_ | refine R_callvZ rfl (hQ) rfl rfl rfl rfl ?_ | refine D_callZ rfl (users_f s.net k (by omega)) rfl rfl rfl ?_ | refine D_callZ rfl (hP) rfl rfl rfl ?_ | refine D_callZ rfl (hQ) rfl rfl rfl ?_ | ((first | refine R_cond rfl (fun hq => ?_) fun hq => ?_ | refine R_guardT rfl rfl rfl (fun hq => ?_) fun hq => ?_ | refine R_guardF rfl rfl rfl (fun hq => ?_) fun hq => ?_ | refine D_guardT rfl rfl rfl (fun hq => ?_) fun hq => ?_ | refine D_guardF rfl rfl rfl (fun hq => ?_) fun hq => ?_) <;> (try rw [hq]) <;> first | have hp := of_decide_eq_true hq | have hp := of_decide_eq_false hq | have hp := of_decide_eq_false (not_t hq) | have hp := of_decide_eq_true (not_f hq) | have hp := hq))
    all_goals first
      | (exfalso; omega)
      | (refine ⟨k + 1, by omega, by omega, ?_⟩
         simp only [arcsB, starB, hq, if_true]
         exact weakZ _)
      | (refine ⟨k + 1, by omega, by omega, ?_⟩
         simp only [arcsB, starB, hq, Bool.false_eq_true, if_false]
         exact weakZ _)
  · have ek : k = s.net.places.toNat := by omega
    repeat' (first | refine goZ ?_ | ((first | refine R_cond rfl (fun hq => ?_) fun hq => ?_ | refine R_guardT rfl rfl rfl (fun hq => ?_) fun hq => ?_ | refine R_guardF rfl rfl rfl (fun hq => ?_) fun hq => ?_ | refine D_guardT rfl rfl rfl (fun hq => ?_) fun hq => ?_ | refine D_guardF rfl rfl rfl (fun hq => ?_) fun hq => ?_) <;> (try rw [hq]) <;> first | have hp := of_decide_eq_true hq | have hp := of_decide_eq_false hq | have hp := of_decide_eq_false (not_t hq) | have hp := of_decide_eq_true (not_f hq) | have hp := hq))
    all_goals first
      | (exfalso; omega)
      | exact ret_lit2 rfl (by rw [ek]; simp [faR, faOk, hg, hm, hs]) (by simp [faOk, hg, hm, hs])

/-- A function that hands back an array of the call's own, read only from then on. -/
theorem Fn.toSh {P : Program} {f : FuncId} {ds : List D} {T : TypeId} {m : Nat} {xs : List (List D)} (h : Fn P f ds (.own 0) [.arr T m xs true]) : Fn P f ds (.sh m xs) [] := by
  refine ⟨h.plain, rfl, fun A w us hA hus => (h.calls A w us hA hus).mono ?_⟩
  rintro e w' ⟨v, ms, rfl, hp⟩
  obtain ⟨e0, hi, rfl, _⟩ := hp.val.own_inv
  obtain ⟨us', bs, o1, o2, o3, o4, o5⟩ := hp.ents 0 _ e0 rfl hi
  rw [if_pos rfl] at o5
  have key : VR w' (.sh m xs) e0.v (e0.top.toList ++ bs) := by
    obtain ⟨hl, ⟨hv, h0⟩ | ⟨g, cap, cur, hv, hg, hh, c1, c2, c3, c4⟩⟩ := o1
    · have hx : xs = [] := List.length_eq_zero_iff.1 h0
      subst hx
      have ht : e0.top = none := by rw [o4, hv]; rfl
      have hbs : bs = [] := by
        simp only [List.flatten_nil] at o3; cases o3; rfl
      rw [hv, ht, hbs]
      exact .shnil (by omega) fun _ => rfl
    · have ht : e0.top = some g := by rw [o4, hv]; rfl
      rw [hv, ht]
      unfold maxLen at c2
      refine .sh o2 c1 (by omega) (Array.getElem?_eq_some_iff.1 hh).1 o3 ?_
      intro q hq
      have : us'[q]? = cur[q]? := by rw [← c4, List.getElem?_take, if_pos (by omega), Array.getElem?_toList]
      rw [this, Nat.zero_add]
      simp [World.cell?, hh]
  refine ⟨e0.v, [], rfl, hp.ext, rfl, by simp [owned], by simp [owned], by simp, .rd key fun k hk => ?_⟩
  have hr := hp.range k (ent_owned hi (by rw [o5.1]; exact hk))
  exact ⟨hr.2, Or.inl hr.1, by simp [tops]⟩

set_option maxHeartbeats 4000000 in
theorem l3Arcs_f (s : Stg) (hg : goodStg s = true) (hm : mgA s = true) : Fn Tryd.prog 39 [.agg (dStg s)] (.lit (.string (arcsB s s.net.places.toNat))) [] := by
  refine Fn_of Tryd.func39 rfl (by kernel_rfl) rfl rfl ?_
  intro w0 A hin
  have hgl := goodStg_len hg
  have hS := l3Signals_f s (by omega) (namesF hg)
  repeat' (first | refine goZ ?_ | refine R_callZ rfl (hS) rfl rfl rfl ?_ | refine R_callvZ rfl (hS) rfl rfl rfl rfl ?_ | refine D_callZ rfl (hS) rfl rfl rfl ?_ | ((first | refine R_cond rfl (fun hq => ?_) fun hq => ?_ | refine R_guardT rfl rfl rfl (fun hq => ?_) fun hq => ?_ | refine R_guardF rfl rfl rfl (fun hq => ?_) fun hq => ?_ | refine D_guardT rfl rfl rfl (fun hq => ?_) fun hq => ?_ | refine D_guardF rfl rfl rfl (fun hq => ?_) fun hq => ?_) <;> (try rw [hq]) <;> first | have hp := of_decide_eq_true hq | have hp := of_decide_eq_false hq | have hp := of_decide_eq_false (not_t hq) | have hp := of_decide_eq_true (not_f hq) | have hp := hq))
  refine W_loop (fun k : Nat => ⟨_, [(1, .ptr 0 0), (3, .lit (.string (arcsB s k))), (4, .lit (.int .i64 k))], [.cells 38 (dStg s)]⟩) (fun k => (k : Int) ≤ s.net.places) (fun k => s.net.places.toNat - k) 0 (by omega) (weakZ []) ?_
  rintro k hk
  have hfs := arcsB_size hg hm k hk
  have hpl : s.net.places ≤ 40 := hgl.2.2.2.2.2
  have hss : (s.start.size : Int) = s.net.places := by
    have h' := hg
    simp only [goodStg, goodMark, bitsB, Bool.and_eq_true, decide_eq_true_eq] at h'
    omega
  rcases Decidable.em ((k : Int) < s.net.places) with hlt | hge
  · obtain ⟨l1, l2, l3, l4⟩ := arcF_of hg hm hlt
    obtain ⟨u1, u2⟩ := mgA_at hm hlt
    have hz1 := len_ints (useL s.net (k : Int) false)
    have hz2 := len_ints (useL s.net (k : Int) true)
    have a1 := arcT_lt u1
    have a2 := arcT_lt u2
    have hP := l2Text_f s (arcT s k true).toNat hg (by omega)
    have hQ := l2Text_f s (arcT s k false).toNat hg (by omega)
    rw [show (((arcT s k true).toNat : Nat) : Int) = arcT s k true by omega] at hP
    rw [show (((arcT s k false).toNat : Nat) : Int) = arcT s k false by omega] at hQ
    have e1 : (⟨#[32]⟩ : ByteArray).size = 1 := rfl
    have e2 : (⟨#[32, 42]⟩ : ByteArray).size = 2 := rfl
    have e3 : (⟨#[10]⟩ : ByteArray).size = 1 := rfl
    have l5 : (arcsB s k ++ arcB s k).size ≤ 2100 := by
      have : (arcB s k).size ≤ 21 := l4
      rw [ByteArray.size_append]; omega
    have l6 : ((arcsB s k ++ arcB s k) ++ ⟨#[32, 42]⟩).size ≤ 2102 := by rw [ByteArray.size_append]; omega
    simp only [arcB] at l5 l6
    repeat' (first | refine goZ ?_ | refine R_callZ rfl ((l3Of_f s k true (by omega)).toSh) rfl rfl rfl ?_ | refine R_callZ rfl ((l3Of_f s k false (by omega)).toSh) rfl rfl rfl ?_ | refine R_callZ rfl (hP) rfl rfl rfl ?_ | refine R_callZ rfl (hQ) rfl rfl rfl ?_ | refine R_callvZ rfl ((l3Of_f s k true (by omega)).toSh) rfl rfl rfl rfl ?_ | refine R_callvZ rfl ((l3Of_f s k false (by omega)).toSh) rfl rfl rfl rfl ?_ | refine R_callvZ rfl (hP) rfl rfl rfl rfl ?_ | refine R_callvZ rfl (hQ) rfl rfl rfl rfl ?_ | refine D_callZ rfl ((l3Of_f s k true (by omega)).toSh) rfl rfl rfl ?_ | refine D_callZ rfl ((l3Of_f s k false (by omega)).toSh) rfl rfl rfl ?_ | refine D_callZ rfl (hP) rfl rfl rfl ?_ | refine D_callZ rfl (hQ) rfl rfl rfl ?_ | ((first | refine R_cond rfl (fun hq => ?_) fun hq => ?_ | refine R_guardT rfl rfl rfl (fun hq => ?_) fun hq => ?_ | refine R_guardF rfl rfl rfl (fun hq => ?_) fun hq => ?_ | refine D_guardT rfl rfl rfl (fun hq => ?_) fun hq => ?_ | refine D_guardF rfl rfl rfl (fun hq => ?_) fun hq => ?_) <;> (try rw [hq]) <;> first | have hp := of_decide_eq_true hq | have hp := of_decide_eq_false hq | have hp := of_decide_eq_false (not_t hq) | have hp := of_decide_eq_true (not_f hq) | have hp := hq))
    all_goals first
      | (exfalso; omega)
      | (refine ⟨k + 1, by omega, by omega, ?_⟩
         simp only [arcsB, starB, hq, if_true]
         exact weakZ _)
      | (refine ⟨k + 1, by omega, by omega, ?_⟩
         simp only [arcsB, starB, hq, Bool.false_eq_true, if_false]
         exact weakZ _)
  · have ek : k = s.net.places.toNat := by omega
    repeat' (first | refine goZ ?_ | ((first | refine R_cond rfl (fun hq => ?_) fun hq => ?_ | refine R_guardT rfl rfl rfl (fun hq => ?_) fun hq => ?_ | refine R_guardF rfl rfl rfl (fun hq => ?_) fun hq => ?_ | refine D_guardT rfl rfl rfl (fun hq => ?_) fun hq => ?_ | refine D_guardF rfl rfl rfl (fun hq => ?_) fun hq => ?_) <;> (try rw [hq]) <;> first | have hp := of_decide_eq_true hq | have hp := of_decide_eq_false hq | have hp := of_decide_eq_false (not_t hq) | have hp := of_decide_eq_true (not_f hq) | have hp := hq))
    all_goals first
      | (exfalso; omega)
      | exact ret_lit rfl (by rw [ek])

theorem specFormatArcs_f (s : Stg) (hz : szStg s ≤ 1048576) : Fn Tryd.prog 16 [.agg (dStg s)] (.tup [.lit (.string (faR s)), .lit (.bool (faOk s))]) [] := by
  refine Fn_of Tryd.func16 rfl (by kernel_rfl) rfl rfl ?_
  intro w0 A hin
  have hst := start_le s
  have hV := l2Good_f s (by omega)
  cases hg : goodStg s <;> rw [hg] at hV
  · repeat' (first | refine goZ ?_ | refine R_callZ rfl (hV) rfl rfl rfl ?_ | refine R_callvZ rfl (hV) rfl rfl rfl rfl ?_ | refine D_callZ rfl (hV) rfl rfl rfl ?_ | ((first | refine R_cond rfl (fun hq => ?_) fun hq => ?_ | refine R_guardT rfl rfl rfl (fun hq => ?_) fun hq => ?_ | refine R_guardF rfl rfl rfl (fun hq => ?_) fun hq => ?_ | refine D_guardT rfl rfl rfl (fun hq => ?_) fun hq => ?_ | refine D_guardF rfl rfl rfl (fun hq => ?_) fun hq => ?_) <;> (try rw [hq]) <;> first | have hp := of_decide_eq_true hq | have hp := of_decide_eq_false hq | have hp := of_decide_eq_false (not_t hq) | have hp := of_decide_eq_true (not_f hq) | have hp := hq))
    exact ret_lit2 rfl (by simp [faR, faOk, hg]) (by simp [faOk, hg])
  have hgl := goodStg_len hg
  have hK := l3Kinds_f s (by omega)
  have hM := l3Marked_f s hg
  cases hs : srtB s.signals <;> rw [hs] at hK
  · repeat' (first | refine goZ ?_ | refine R_callZ rfl (hV) rfl rfl rfl ?_ | refine R_callZ rfl (hK) rfl rfl rfl ?_ | refine R_callvZ rfl (hV) rfl rfl rfl rfl ?_ | refine R_callvZ rfl (hK) rfl rfl rfl rfl ?_ | refine D_callZ rfl (hV) rfl rfl rfl ?_ | refine D_callZ rfl (hK) rfl rfl rfl ?_ | ((first | refine R_cond rfl (fun hq => ?_) fun hq => ?_ | refine R_guardT rfl rfl rfl (fun hq => ?_) fun hq => ?_ | refine R_guardF rfl rfl rfl (fun hq => ?_) fun hq => ?_ | refine D_guardT rfl rfl rfl (fun hq => ?_) fun hq => ?_ | refine D_guardF rfl rfl rfl (fun hq => ?_) fun hq => ?_) <;> (try rw [hq]) <;> first | have hp := of_decide_eq_true hq | have hp := of_decide_eq_false hq | have hp := of_decide_eq_false (not_t hq) | have hp := of_decide_eq_true (not_f hq) | have hp := hq))
    exact ret_lit2 rfl (by simp [faR, faOk, hs]) (by simp [faOk, hs])
  cases hm : mgA s <;> rw [hm] at hM
  · repeat' (first | refine goZ ?_ | refine R_callZ rfl (hV) rfl rfl rfl ?_ | refine R_callZ rfl (hK) rfl rfl rfl ?_ | refine R_callZ rfl (hM) rfl rfl rfl ?_ | refine R_callvZ rfl (hV) rfl rfl rfl rfl ?_ | refine R_callvZ rfl (hK) rfl rfl rfl rfl ?_ | refine R_callvZ rfl (hM) rfl rfl rfl rfl ?_ | refine D_callZ rfl (hV) rfl rfl rfl ?_ | refine D_callZ rfl (hK) rfl rfl rfl ?_ | refine D_callZ rfl (hM) rfl rfl rfl ?_ | ((first | refine R_cond rfl (fun hq => ?_) fun hq => ?_ | refine R_guardT rfl rfl rfl (fun hq => ?_) fun hq => ?_ | refine R_guardF rfl rfl rfl (fun hq => ?_) fun hq => ?_ | refine D_guardT rfl rfl rfl (fun hq => ?_) fun hq => ?_ | refine D_guardF rfl rfl rfl (fun hq => ?_) fun hq => ?_) <;> (try rw [hq]) <;> first | have hp := of_decide_eq_true hq | have hp := of_decide_eq_false hq | have hp := of_decide_eq_false (not_t hq) | have hp := of_decide_eq_true (not_f hq) | have hp := hq))
    exact ret_lit2 rfl (by simp [faR, faOk, hm]) (by simp [faOk, hm])
  have hA := l3Arcs_f s hg hm
  repeat' (first | refine goZ ?_ | refine R_callZ rfl (hV) rfl rfl rfl ?_ | refine R_callZ rfl (hK) rfl rfl rfl ?_ | refine R_callZ rfl (hM) rfl rfl rfl ?_ | refine R_callZ rfl (hA) rfl rfl rfl ?_ | refine R_callvZ rfl (hV) rfl rfl rfl rfl ?_ | refine R_callvZ rfl (hK) rfl rfl rfl rfl ?_ | refine R_callvZ rfl (hM) rfl rfl rfl rfl ?_ | refine R_callvZ rfl (hA) rfl rfl rfl rfl ?_ | refine D_callZ rfl (hV) rfl rfl rfl ?_ | refine D_callZ rfl (hK) rfl rfl rfl ?_ | refine D_callZ rfl (hM) rfl rfl rfl ?_ | refine D_callZ rfl (hA) rfl rfl rfl ?_ | ((first | refine R_cond rfl (fun hq => ?_) fun hq => ?_ | refine R_guardT rfl rfl rfl (fun hq => ?_) fun hq => ?_ | refine R_guardF rfl rfl rfl (fun hq => ?_) fun hq => ?_ | refine D_guardT rfl rfl rfl (fun hq => ?_) fun hq => ?_ | refine D_guardF rfl rfl rfl (fun hq => ?_) fun hq => ?_) <;> (try rw [hq]) <;> first | have hp := of_decide_eq_true hq | have hp := of_decide_eq_false hq | have hp := of_decide_eq_false (not_t hq) | have hp := of_decide_eq_true (not_f hq) | have hp := hq))
  exact ret_lit2 rfl (by simp [faR, faOk, hg, hs, hm]) (by simp [faOk, hg, hs, hm])
end Go.Proofs.YtkegeacjalechaaDoor
