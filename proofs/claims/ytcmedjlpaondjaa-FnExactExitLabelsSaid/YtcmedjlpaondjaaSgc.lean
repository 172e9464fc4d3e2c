/- Signals excited in a state: what the reference's and the program's functions hand back. No condition. State graphs: states of a code, signals that are no inputs, stable states: what the reference's and the program's functions hand back. No condition. -/
import Derived.Test.YtcmedjlpaondjaaSgb
import Derived.Test.YtcmedjlpaondjaaPick
set_option linter.unusedSimpArgs false
set_option linter.unusedVariables false
set_option maxHeartbeats 2000000
namespace Go.Proofs.Ytcmedjlpaondjaa
open Go.ChangeShapes Go.WideShapes Go.ChangeAt Go.RowKit

theorem IndexFunc2_ArcD_f (l : List ArcD) (p : ArcD → Bool) (fid : FuncId) (cs cs' : List D) (hp : ∀ x ∈ l, Fn Try.prog fid [.agg (dArcD x), .sptr cs, .sptr cs'] (.lit (.bool (p x))) []) : Fn Try.prog 107 [.sh 4 (l.map dArcD), .fn fid [.sptr cs, .sptr cs']] (.lit (.int .i64 (findIx p l))) [] := by
  refine Fn_of Try.func107 rfl (by kernel_rfl) rfl rfl ?_
  intro w0 A hin
  have hl := given_len hin (i := 0) rfl
  rw [len_dArcD] at hl
  have hF := fun k (hk : k < l.length) => hp _ (nth_mem hk)
  clear hp
  repeat' (first | refine goZ ?_ | ((first | refine R_cond rfl (fun hq => ?_) fun hq => ?_ | refine R_guardT rfl rfl rfl (fun hq => ?_) fun hq => ?_ | refine R_guardF rfl rfl rfl (fun hq => ?_) fun hq => ?_ | refine D_guardT rfl rfl rfl (fun hq => ?_) fun hq => ?_ | refine D_guardF rfl rfl rfl (fun hq => ?_) fun hq => ?_) <;> (try rw [hq]) <;> first | have hp := of_decide_eq_true hq | have hp := of_decide_eq_false hq | have hp := of_decide_eq_false (not_t hq) | have hp := of_decide_eq_true (not_f hq) | have hp := hq))
  refine W_loop (fun k : Nat => ⟨_, [(0, .sh 4 (l.map dArcD)), (1, .fn fid [.sptr cs, .sptr cs']), (7, .lit (.int .i64 l.length)), (8, .lit (.int .i64 k))], []⟩) (fun k => k ≤ l.length ∧ ∀ j, j < k → p (nth l j) = false) (fun k => l.length - k) 0 ⟨Nat.zero_le _, by omega⟩ (weakZ []) ?_
  rintro k ⟨hk, hj⟩
  repeat' (first | refine goZ ?_ | refine R_callZ rfl (hF _ (by omega)) rfl rfl rfl ?_ | refine R_callvZ rfl (hF _ (by omega)) rfl rfl rfl rfl ?_ | refine D_callZ rfl (hF _ (by omega)) rfl rfl rfl ?_ | ((first | refine R_cond rfl (fun hq => ?_) fun hq => ?_ | refine R_guardT rfl rfl rfl (fun hq => ?_) fun hq => ?_ | refine R_guardF rfl rfl rfl (fun hq => ?_) fun hq => ?_ | refine D_guardT rfl rfl rfl (fun hq => ?_) fun hq => ?_ | refine D_guardF rfl rfl rfl (fun hq => ?_) fun hq => ?_) <;> (try rw [hq]) <;> first | have hp := of_decide_eq_true hq | have hp := of_decide_eq_false hq | have hp := of_decide_eq_false (not_t hq) | have hp := of_decide_eq_true (not_f hq) | have hp := hq))
  · exact ret_int' rfl (findIx_at p (by omega) hj hq).symm
  · exact ⟨k + 1, ⟨by omega, fun j hj' => by by_cases e : j = k; (rw [e]; exact hq); exact hj j (by omega)⟩, by omega, weakZ []⟩
  · exact ret_int' rfl (findIx_not p (allN fun j h => hj j (by omega))).symm

def excP (k sig : Int) (a : ArcD) : Bool := decide (a.src = k) && decide (a.sig = sig)
noncomputable def stateB (c : SGraph) (k : Int) : Bool := goodSG c && decide (0 ≤ k ∧ k ≤ (c.codes.length : Int) - 1)
noncomputable def excB (c : SGraph) (k sig : Int) : Bool := stateB c k && decide (0 ≤ sig ∧ sig ≤ (c.signals.length : Int) - 1)
noncomputable def excV (c : SGraph) (k sig : Int) : Bool := excB c k sig && c.arcs.any (excP k sig)
theorem goodSG_len {c : SGraph} (h : goodSG c = true) : 1 ≤ c.signals.length ∧ c.signals.length ≤ 8 ∧ 1 ≤ c.codes.length ∧ c.codes.length ≤ 300 ∧ c.arcs.length ≤ 4000 := by
  simp only [goodSG, sgB, Bool.and_eq_true] at h; exact sgA_len h.1.1

theorem l5Excited_f (c : SGraph) (k sig : Int) : Fn Try.prog 85 [.agg (dSGraph c), .lit (.int .i64 k), .lit (.int .i64 sig)] (.lit (.bool (c.arcs.any (excP k sig)))) [] := by
  refine Fn_of Try.func85 rfl (by kernel_rfl) rfl rfl ?_
  intro w0 A hin
  have hz := len_dArcD c.arcs
  have hl := given_agg hin (i := 0) (j := 2) rfl rfl
  rw [hz] at hl
  repeat' (first | refine goZ ?_ | ((first | refine R_cond rfl (fun hq => ?_) fun hq => ?_ | refine R_guardT rfl rfl rfl (fun hq => ?_) fun hq => ?_ | refine R_guardF rfl rfl rfl (fun hq => ?_) fun hq => ?_ | refine D_guardT rfl rfl rfl (fun hq => ?_) fun hq => ?_ | refine D_guardF rfl rfl rfl (fun hq => ?_) fun hq => ?_) <;> (try rw [hq]) <;> first | have hp := of_decide_eq_true hq | have hp := of_decide_eq_false hq | have hp := of_decide_eq_false (not_t hq) | have hp := of_decide_eq_true (not_f hq) | have hp := hq))
  refine W_loop (fun j : Nat => ⟨_, [(1, .lit (.int .i64 k)), (2, .lit (.int .i64 sig)), (10, .sh 4 (c.arcs.map dArcD)), (11, .lit (.int .i64 c.arcs.length)), (12, .lit (.int .i64 j))], []⟩) (fun j => j ≤ c.arcs.length ∧ ∀ i, i < j → excP k sig (nth c.arcs i) = false) (fun j => c.arcs.length - j) 0 ⟨Nat.zero_le _, by omega⟩ (weakZ _) ?_
  rintro j ⟨hj, hjj⟩
  have hnx : excP k sig (nth c.arcs j) = false → ∀ i, i < j + 1 → excP k sig (nth c.arcs i) = false := fun h i hi => by
    rcases Nat.lt_or_ge i j with h2 | h2
    · exact hjj i h2
    · rw [show i = j by omega]; exact h
  repeat' (first | refine goZ ?_ | ((first | refine R_cond rfl (fun hq => ?_) fun hq => ?_ | refine R_guardT rfl rfl rfl (fun hq => ?_) fun hq => ?_ | refine R_guardF rfl rfl rfl (fun hq => ?_) fun hq => ?_ | refine D_guardT rfl rfl rfl (fun hq => ?_) fun hq => ?_ | refine D_guardF rfl rfl rfl (fun hq => ?_) fun hq => ?_) <;> (try rw [hq]) <;> first | have hp := of_decide_eq_true hq | have hp := of_decide_eq_false hq | have hp := of_decide_eq_false (not_t hq) | have hp := of_decide_eq_true (not_f hq) | have hp := hq))
  · refine ret_bool' rfl ?_
    rw [eq_comm, List.any_eq_true]
    exact ⟨nth c.arcs j, nth_mem (by omega), by rw [excP, Bool.and_eq_true, decide_eq_true_eq, decide_eq_true_eq]; exact ⟨by assumption, hp⟩⟩
  · exact ⟨j + 1, ⟨by omega, hnx (by rw [excP, decide_eq_false hp, Bool.and_false])⟩, by omega, weakZ _⟩
  · exact ⟨j + 1, ⟨by omega, hnx (by rw [excP, decide_eq_false hp, Bool.false_and])⟩, by omega, weakZ _⟩
  · refine ret_bool' rfl ?_
    rw [eq_comm, List.any_eq_false]
    intro a ha
    obtain ⟨i, hi, e⟩ := List.getElem_of_mem ha
    have := hjj i (by omega)
    rw [nth_get hi, e] at this
    rw [this]; simp

end Go.Proofs.Ytcmedjlpaondjaa
namespace Go.Proofs.Ytcmedjlpaondjaa
open Go.ChangeShapes Go.WideShapes Go.ChangeAt Go.RowKit

def swcP (c : SGraph) (code : ByteArray) (k : Nat) : Bool := decide (nth c.codes k = code)
noncomputable def swcL (c : SGraph) (code : ByteArray) : List Int := if goodSG c then pickN (swcP c code) c.codes.length else []
theorem swcL_len (c : SGraph) (code : ByteArray) : (swcL c code).length ≤ 300 := by
  unfold swcL
  split
  · rename_i h
    have := goodSG_len h; have := pickN_len (swcP c code) c.codes.length
    omega
  · simp
def outP (c : SGraph) (k : Nat) : Bool := !decide ((nth c.signals k).kind = 1)
def outL (c : SGraph) : List Int := pickN (outP c) c.signals.length
noncomputable def nisL (c : SGraph) : List Int := if goodSG c then outL c else []
theorem nisL_len (c : SGraph) : (nisL c).length ≤ 8 := by
  unfold nisL
  split
  · rename_i h
    have := goodSG_len h; have := pickN_len (outP c) c.signals.length
    unfold outL; omega
  · simp

theorem l6Own_f (c : SGraph) (k : Nat) (hk : k < c.signals.length) : Fn Try.prog 86 [.agg (dSGraph c), .lit (.int .i64 k)] (.lit (.bool (outP c k))) [] := by
  refine Fn_of Try.func86 rfl (by kernel_rfl) rfl rfl ?_
  intro w0 A hin
  have hz := len_dSig c.signals
  repeat' (first | refine goZ ?_ | ((first | refine R_cond rfl (fun hq => ?_) fun hq => ?_ | refine R_guardT rfl rfl rfl (fun hq => ?_) fun hq => ?_ | refine R_guardF rfl rfl rfl (fun hq => ?_) fun hq => ?_ | refine D_guardT rfl rfl rfl (fun hq => ?_) fun hq => ?_ | refine D_guardF rfl rfl rfl (fun hq => ?_) fun hq => ?_) <;> (try rw [hq]) <;> first | have hp := of_decide_eq_true hq | have hp := of_decide_eq_false hq | have hp := of_decide_eq_false (not_t hq) | have hp := of_decide_eq_true (not_f hq) | have hp := hq))
  all_goals first | exact ret_bool' rfl rfl | (exfalso; omega)

noncomputable def askB (c : SGraph) (sig : Int) : Bool := goodSG c && decide (0 ≤ sig ∧ sig ≤ (c.signals.length : Int) - 1)
def staP (c : SGraph) (sig : Int) (v : Bool) (k : Nat) : Bool := decide (bAt (nth c.codes k) sig = bitI v) && !c.arcs.any (excP k sig)
def staL (c : SGraph) (sig : Int) (v : Bool) : List Int := pickN (staP c sig v) c.codes.length
noncomputable def stsL (c : SGraph) (sig : Int) (v : Bool) : List Int := if askB c sig then staL c sig v else []
theorem askB_good {c : SGraph} {sig : Int} (h : askB c sig = true) : goodSG c = true ∧ 0 ≤ sig ∧ sig ≤ (c.signals.length : Int) - 1 := by
  simp only [askB, Bool.and_eq_true, decide_eq_true_eq] at h; exact h
theorem goodSG_codes {c : SGraph} (h : goodSG c = true) : ∀ k : Nat, k < c.codes.length → bitsOk (nth c.codes k) ∧ ((nth c.codes k).size : Int) = c.signals.length := fun k hk => by
  simp only [goodSG, sgB, Bool.and_eq_true] at h
  exact codeB_ok (List.all_eq_true.1 h.1.2.1 _ (nth_mem hk))
theorem stsL_len (c : SGraph) (sig : Int) (v : Bool) : (stsL c sig v).length ≤ 300 := by
  unfold stsL
  split
  · rename_i h
    have := goodSG_len (askB_good h).1; have := pickN_len (staP c sig v) c.codes.length
    unfold staL; omega
  · simp

theorem l10Asked_f (c : SGraph) (sig : Int) : Fn Try.prog 72 [.agg (dSGraph c), .lit (.int .i64 sig)] (.lit (.bool (askB c sig))) [] := by
  refine Fn_of Try.func72 rfl (by kernel_rfl) rfl rfl ?_
  intro w0 A hin
  have hz := len_dSig c.signals
  have hl := given_agg hin (i := 0) (j := 0) rfl rfl
  have hV := l5Good_f c
  cases hg : goodSG c <;> rw [hg] at hV
  · repeat' (first | refine goZ ?_ | refine R_callZ rfl (hV) rfl rfl rfl ?_ | refine R_callvZ rfl (hV) rfl rfl rfl rfl ?_ | refine D_callZ rfl (hV) rfl rfl rfl ?_ | ((first | refine R_cond rfl (fun hq => ?_) fun hq => ?_ | refine R_guardT rfl rfl rfl (fun hq => ?_) fun hq => ?_ | refine R_guardF rfl rfl rfl (fun hq => ?_) fun hq => ?_ | refine D_guardT rfl rfl rfl (fun hq => ?_) fun hq => ?_ | refine D_guardF rfl rfl rfl (fun hq => ?_) fun hq => ?_) <;> (try rw [hq]) <;> first | have hp := of_decide_eq_true hq | have hp := of_decide_eq_false hq | have hp := of_decide_eq_false (not_t hq) | have hp := of_decide_eq_true (not_f hq) | have hp := hq))
    exact ret_bool' rfl (by rw [askB, hg, Bool.false_and])
  · repeat' (first | refine goZ ?_ | refine R_callZ rfl (hV) rfl rfl rfl ?_ | refine R_callZ rfl (l1In_f _ _ _) rfl rfl rfl ?_ | refine R_callvZ rfl (hV) rfl rfl rfl rfl ?_ | refine R_callvZ rfl (l1In_f _ _ _) rfl rfl rfl rfl ?_ | refine D_callZ rfl (hV) rfl rfl rfl ?_ | refine D_callZ rfl (l1In_f _ _ _) rfl rfl rfl ?_ | ((first | refine R_cond rfl (fun hq => ?_) fun hq => ?_ | refine R_guardT rfl rfl rfl (fun hq => ?_) fun hq => ?_ | refine R_guardF rfl rfl rfl (fun hq => ?_) fun hq => ?_ | refine D_guardT rfl rfl rfl (fun hq => ?_) fun hq => ?_ | refine D_guardF rfl rfl rfl (fun hq => ?_) fun hq => ?_) <;> (try rw [hq]) <;> first | have hp := of_decide_eq_true hq | have hp := of_decide_eq_false hq | have hp := of_decide_eq_false (not_t hq) | have hp := of_decide_eq_true (not_f hq) | have hp := hq))
    exact ret_bool' rfl (by rw [askB, hg, Bool.true_and, hz])

theorem hasSignal_f (c : SGraph) (sig : Int) : Fn Try.prog 75 [.agg (dSGraph c), .lit (.int .i64 sig)] (.lit (.bool (askB c sig))) [] := by
  refine Fn_of Try.func75 rfl (by kernel_rfl) rfl rfl ?_
  intro w0 A hin
  have hz := len_dSig c.signals
  have hl := given_agg hin (i := 0) (j := 0) rfl rfl
  have hV := IsValidStateGraph_f c
  cases hg : goodSG c <;> rw [hg] at hV
  · repeat' (first | refine goZ ?_ | refine R_callZ rfl (hV) rfl rfl rfl ?_ | refine R_callvZ rfl (hV) rfl rfl rfl rfl ?_ | refine D_callZ rfl (hV) rfl rfl rfl ?_ | ((first | refine R_cond rfl (fun hq => ?_) fun hq => ?_ | refine R_guardT rfl rfl rfl (fun hq => ?_) fun hq => ?_ | refine R_guardF rfl rfl rfl (fun hq => ?_) fun hq => ?_ | refine D_guardT rfl rfl rfl (fun hq => ?_) fun hq => ?_ | refine D_guardF rfl rfl rfl (fun hq => ?_) fun hq => ?_) <;> (try rw [hq]) <;> first | have hp := of_decide_eq_true hq | have hp := of_decide_eq_false hq | have hp := of_decide_eq_false (not_t hq) | have hp := of_decide_eq_true (not_f hq) | have hp := hq))
    exact ret_bool' rfl (by rw [askB, hg, Bool.false_and])
  · repeat' (first | refine goZ ?_ | refine R_callZ rfl (hV) rfl rfl rfl ?_ | refine R_callZ rfl (within_f _ _ _) rfl rfl rfl ?_ | refine R_callvZ rfl (hV) rfl rfl rfl rfl ?_ | refine R_callvZ rfl (within_f _ _ _) rfl rfl rfl rfl ?_ | refine D_callZ rfl (hV) rfl rfl rfl ?_ | refine D_callZ rfl (within_f _ _ _) rfl rfl rfl ?_ | ((first | refine R_cond rfl (fun hq => ?_) fun hq => ?_ | refine R_guardT rfl rfl rfl (fun hq => ?_) fun hq => ?_ | refine R_guardF rfl rfl rfl (fun hq => ?_) fun hq => ?_ | refine D_guardT rfl rfl rfl (fun hq => ?_) fun hq => ?_ | refine D_guardF rfl rfl rfl (fun hq => ?_) fun hq => ?_) <;> (try rw [hq]) <;> first | have hp := of_decide_eq_true hq | have hp := of_decide_eq_false hq | have hp := of_decide_eq_false (not_t hq) | have hp := of_decide_eq_true (not_f hq) | have hp := hq))
    exact ret_bool' rfl (by rw [askB, hg, Bool.true_and, hz])

end Go.Proofs.Ytcmedjlpaondjaa
