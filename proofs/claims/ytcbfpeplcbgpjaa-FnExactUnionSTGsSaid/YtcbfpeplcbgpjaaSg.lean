/- State graphs: codes, arcs, what is reached. No condition. -/
import Derived.Test.YtcbfpeplcbgpjaaDist
import Derived.Test.YtcbfpeplcbgpjaaStg
set_option linter.unusedSimpArgs false
set_option linter.unusedVariables false
set_option maxHeartbeats 2000000
namespace Go.Proofs.Ytcbfpeplcbgpjaa
open Go.ChangeShapes Go.WideShapes Go.ChangeAt Go.RowKit

/-! ### Bytes -/
theorem bAt_get {s : ByteArray} {j : Nat} (h : j < s.size) : bAt s (j : Int) = (s[j].toNat : Int) := by
  unfold bAt; rw [Int.toNat_natCast, getElem?_pos s j h]; rfl
theorem bAt_inj {x y : ByteArray} {j : Nat} (hx : j < x.size) (hy : j < y.size) : bAt x (j : Int) = bAt y (j : Int) ↔ x[j] = y[j] := by
  rw [bAt_get hx, bAt_get hy]
  constructor
  · intro h; exact UInt8.toNat_inj.1 (by omega)
  · intro h; rw [h]
theorem bytes_eq {x y : ByteArray} (hl : x.size = y.size) : x = y ↔ ∀ j : Nat, j < x.size → bAt x (j : Int) = bAt y (j : Int) := by
  constructor
  · rintro rfl j _; rfl
  · intro h
    exact ByteArray.ext_getElem hl fun i hi hi' => (bAt_inj hi hi').1 (h i hi)
theorem bAt_append_left {x y : ByteArray} {j : Nat} (h : j < x.size) : bAt (x ++ y) (j : Int) = bAt x (j : Int) := by
  have h2 : j < (x ++ y).size := by rw [ByteArray.size_append]; omega
  rw [bAt_get h, bAt_get h2, ByteArray.getElem_eq_getElem_data, ByteArray.getElem_eq_getElem_data]
  simp only [ByteArray.data_append]
  rw [Array.getElem_append_left]
theorem bAt_append_right {x y : ByteArray} {j : Nat} (h : x.size ≤ j) (h2 : j < x.size + y.size) : bAt (x ++ y) (j : Int) = bAt y ((j - x.size : Nat) : Int) := by
  have h3 : j < (x ++ y).size := by rw [ByteArray.size_append]; omega
  rw [bAt_get h3, bAt_get (by omega), ByteArray.getElem_eq_getElem_data, ByteArray.getElem_eq_getElem_data]
  simp only [ByteArray.data_append]
  rw [Array.getElem_append_right h]; rfl
theorem bAt_extract {x : ByteArray} {a b j : Nat} (h : j < min b x.size - a) : bAt (x.extract a b) (j : Int) = bAt x ((a + j : Nat) : Int) := by
  have h2 : j < (x.extract a b).size := by rw [ByteArray.size_extract]; exact h
  rw [bAt_get h2, bAt_get (by omega), ByteArray.getElem_extract]
/-- A string with one byte put elsewhere. -/
def setB (s : ByteArray) (i : Int) (b : ByteArray) : ByteArray := s.extract 0 i.toNat ++ b ++ s.extract (i + 1).toNat s.size
theorem setB_eq {x y b : ByteArray} {i : Int} {c : Int} (hl : x.size = y.size) (hi : 0 ≤ i ∧ i < y.size) (hb : b.size = 1) (hc : bAt b 0 = c) :
    x = setB y i b ↔ ∀ j : Nat, j < x.size → if (j : Int) = i then bAt x j = c else bAt x j = bAt y j := by
  have hs1 : (y.extract 0 i.toNat).size = i.toNat := by rw [ByteArray.size_extract]; omega
  have hs2 : (y.extract (i + 1).toNat y.size).size = y.size - (i.toNat + 1) := by rw [ByteArray.size_extract]; omega
  have hs : (setB y i b).size = y.size := by unfold setB; rw [ByteArray.size_append, ByteArray.size_append, hs1, hs2, hb]; omega
  have key : ∀ j : Nat, j < y.size → bAt (setB y i b) (j : Int) = if (j : Int) = i then c else bAt y j := by
    intro j hj
    unfold setB
    split
    · rename_i e
      rw [bAt_append_left (by rw [ByteArray.size_append, hs1, hb]; omega), bAt_append_right (by omega) (by omega)]
      rw [show j - (y.extract 0 i.toNat).size = 0 by omega]; exact hc
    · rename_i e
      by_cases h : (j : Int) < i
      · rw [bAt_append_left (by rw [ByteArray.size_append, hs1, hb]; omega), bAt_append_left (by omega), bAt_extract (by omega), Nat.zero_add]
      · have h1 : (y.extract 0 i.toNat ++ b).size = i.toNat + 1 := by rw [ByteArray.size_append, hs1, hb]
        rw [bAt_append_right (by omega) (by omega), bAt_extract (by omega)]
        congr 2; omega
  rw [bytes_eq (hl.trans hs.symm)]
  constructor
  · intro h j hj
    have := h j hj
    rw [key j (by omega)] at this
    split
    · rename_i e; rw [if_pos e] at this; exact this
    · rename_i e; rw [if_neg e] at this; exact this
  · intro h j hj
    rw [key j (by omega)]
    have := h j hj
    split
    · rename_i e; rw [if_pos e] at this; exact this
    · rename_i e; rw [if_neg e] at this; exact this

/-! ### Codes -/
def bitsOk (s : ByteArray) : Prop := ∀ j, j < s.size → bAt s (j : Int) = 48 ∨ bAt s (j : Int) = 49
instance (s : ByteArray) : Decidable (bitsOk s) := inferInstanceAs (Decidable (∀ j, j < s.size → _))
def codeB (s : ByteArray) (n : Int) : Bool := decide (bitsOk s) && decide ((s.size : Int) = n)
theorem code_no {s : ByteArray} {n : Int} {k : Nat} (hk : k < s.size) (h : ¬ bAt s (k : Int) = 48) (h' : ¬ bAt s (k : Int) = 49) : false = codeB s n := by
  rw [eq_comm, codeB, Bool.and_eq_false_iff]; left
  rw [decide_eq_false_iff_not]; exact fun hh => (hh k hk).elim h h'
theorem code_yes {s : ByteArray} {n : Int} {k : Nat} (hk : ¬ k < s.size) (h : ∀ j, j < k → bAt s (j : Int) = 48 ∨ bAt s (j : Int) = 49) : decide ((s.size : Int) = n) = codeB s n := by
  rw [codeB, decide_eq_true (p := bitsOk s) fun j hj => h j (by omega), Bool.true_and]

theorem isBitsL_f (s : ByteArray) (n : Int) : Fn Try.prog 145 [.lit (.string s), .lit (.int .i64 n)] (.lit (.bool (codeB s n))) [] := by
  refine Fn_of Try.func145 rfl (by kernel_rfl) rfl rfl ?_
  intro w0 A hin
  have hl := given_str hin (i := 0) rfl
  repeat' (first | refine goZ ?_ | ((first | refine R_cond rfl (fun hq => ?_) fun hq => ?_ | refine R_guardT rfl rfl rfl (fun hq => ?_) fun hq => ?_ | refine R_guardF rfl rfl rfl (fun hq => ?_) fun hq => ?_ | refine D_guardT rfl rfl rfl (fun hq => ?_) fun hq => ?_ | refine D_guardF rfl rfl rfl (fun hq => ?_) fun hq => ?_) <;> (try rw [hq]) <;> first | have hp := of_decide_eq_true hq | have hp := of_decide_eq_false hq | have hp := of_decide_eq_false (not_t hq) | have hp := of_decide_eq_true (not_f hq) | have hp := hq))
  refine W_loop (fun k : Nat => ⟨_, [(0, .lit (.string s)), (1, .lit (.int .i64 n)), (5, .lit (.int .i64 k))], []⟩) (fun k => k ≤ s.size ∧ ∀ j, j < k → bAt s (j : Int) = 48 ∨ bAt s (j : Int) = 49) (fun k => s.size - k) 0 ⟨Nat.zero_le _, by omega⟩ (weakZ []) ?_
  rintro k ⟨hk, hj⟩
  repeat' (first | refine goZ ?_ | ((first | refine R_cond rfl (fun hq => ?_) fun hq => ?_ | refine R_guardT rfl rfl rfl (fun hq => ?_) fun hq => ?_ | refine R_guardF rfl rfl rfl (fun hq => ?_) fun hq => ?_ | refine D_guardT rfl rfl rfl (fun hq => ?_) fun hq => ?_ | refine D_guardF rfl rfl rfl (fun hq => ?_) fun hq => ?_) <;> (try rw [hq]) <;> first | have hp := of_decide_eq_true hq | have hp := of_decide_eq_false hq | have hp := of_decide_eq_false (not_t hq) | have hp := of_decide_eq_true (not_f hq) | have hp := hq))
  all_goals first
    | exact ⟨k + 1, ⟨by omega, fun j hj' => by (by_cases e : j = k; (subst e; omega); exact hj j (by omega))⟩, by omega, weakZ []⟩
    | exact ret_bool' rfl (code_no (k := k) (by omega) (by omega) (by omega))
    | exact ret_bool' rfl (code_yes (k := k) (by omega) hj)

theorem l5Code_f (s : ByteArray) (n : Int) : Fn Try.prog 174 [.lit (.string s), .lit (.int .i64 n)] (.lit (.bool (codeB s n))) [] := by
  refine Fn_of Try.func174 rfl (by kernel_rfl) rfl rfl ?_
  intro w0 A hin
  have hl := given_str hin (i := 0) rfl
  repeat' (first | refine goZ ?_ | ((first | refine R_cond rfl (fun hq => ?_) fun hq => ?_ | refine R_guardT rfl rfl rfl (fun hq => ?_) fun hq => ?_ | refine R_guardF rfl rfl rfl (fun hq => ?_) fun hq => ?_ | refine D_guardT rfl rfl rfl (fun hq => ?_) fun hq => ?_ | refine D_guardF rfl rfl rfl (fun hq => ?_) fun hq => ?_) <;> (try rw [hq]) <;> first | have hp := of_decide_eq_true hq | have hp := of_decide_eq_false hq | have hp := of_decide_eq_false (not_t hq) | have hp := of_decide_eq_true (not_f hq) | have hp := hq))
  refine W_loop (fun k : Nat => ⟨_, [(0, .lit (.string s)), (1, .lit (.int .i64 n)), (5, .lit (.int .i64 k))], []⟩) (fun k => k ≤ s.size ∧ ∀ j, j < k → bAt s (j : Int) = 48 ∨ bAt s (j : Int) = 49) (fun k => s.size - k) 0 ⟨Nat.zero_le _, by omega⟩ (weakZ []) ?_
  rintro k ⟨hk, hj⟩
  repeat' (first | refine goZ ?_ | ((first | refine R_cond rfl (fun hq => ?_) fun hq => ?_ | refine R_guardT rfl rfl rfl (fun hq => ?_) fun hq => ?_ | refine R_guardF rfl rfl rfl (fun hq => ?_) fun hq => ?_ | refine D_guardT rfl rfl rfl (fun hq => ?_) fun hq => ?_ | refine D_guardF rfl rfl rfl (fun hq => ?_) fun hq => ?_) <;> (try rw [hq]) <;> first | have hp := of_decide_eq_true hq | have hp := of_decide_eq_false hq | have hp := of_decide_eq_false (not_t hq) | have hp := of_decide_eq_true (not_f hq) | have hp := hq))
  all_goals first
    | exact ⟨k + 1, ⟨by omega, fun j hj' => by (by_cases e : j = k; (subst e; omega); exact hj j (by omega))⟩, by omega, weakZ []⟩
    | exact ret_bool' rfl (code_no (k := k) (by omega) (by omega) (by omega))
    | exact ret_bool' rfl (code_yes (k := k) (by omega) hj)

/-! ### Arcs between codes -/
def bitI (b : Bool) : Int := if b then 49 else 48
def fitAt (a : ArcD) (x y : ByteArray) (j : Nat) : Prop := if (j : Int) = a.sig then bAt x (j : Int) = bitI (!a.up) ∧ bAt y (j : Int) = bitI a.up else bAt x (j : Int) = bAt y (j : Int)
instance (a : ArcD) (x y : ByteArray) (j : Nat) : Decidable (fitAt a x y j) := by unfold fitAt; infer_instance
def fitOk (a : ArcD) (x y : ByteArray) : Prop := ∀ j, j < x.size → fitAt a x y j
instance (a : ArcD) (x y : ByteArray) : Decidable (fitOk a x y) := inferInstanceAs (Decidable (∀ j, j < x.size → _))

theorem fit_off {a : ArcD} {x y : ByteArray} {k : Nat} (e : ¬ (k : Int) = a.sig) : fitAt a x y k ↔ bAt x (k : Int) = bAt y (k : Int) := by unfold fitAt; rw [if_neg e]
theorem fit_sig {a : ArcD} {x y : ByteArray} {k : Nat} (e : (k : Int) = a.sig) (hx : bAt x (k : Int) = 48 ∨ bAt x (k : Int) = 49) (hy : bAt y (k : Int) = 48 ∨ bAt y (k : Int) = 49) : fitAt a x y k ↔ ¬ (decide (bAt x (k : Int) = 49) = a.up) ∧ decide (bAt y (k : Int) = 49) = a.up := by
  unfold fitAt
  rw [if_pos e]
  cases a.up <;> simp [bitI] <;> omega

theorem fitsCodes_f (a : ArcD) (x y : ByteArray) (hx : bitsOk x) (hy : bitsOk y) (hl : y.size = x.size) : Fn Try.prog 177 [.agg (dArcD a), .lit (.string x), .lit (.string y)] (.lit (.bool (decide (fitOk a x y)))) [] := by
  refine Fn_of Try.func177 rfl (by kernel_rfl) rfl rfl ?_
  intro w0 A hin
  have hs := given_str hin (i := 1) rfl
  repeat' (first | refine goZ ?_ | ((first | refine R_cond rfl (fun hq => ?_) fun hq => ?_ | refine R_guardT rfl rfl rfl (fun hq => ?_) fun hq => ?_ | refine R_guardF rfl rfl rfl (fun hq => ?_) fun hq => ?_ | refine D_guardT rfl rfl rfl (fun hq => ?_) fun hq => ?_ | refine D_guardF rfl rfl rfl (fun hq => ?_) fun hq => ?_) <;> (try rw [hq]) <;> first | have hp := of_decide_eq_true hq | have hp := of_decide_eq_false hq | have hp := of_decide_eq_false (not_t hq) | have hp := of_decide_eq_true (not_f hq) | have hp := hq))
  refine W_loop (fun k : Nat => ⟨_, [(1, .lit (.string x)), (2, .lit (.string y)), (3, .ptr 0 0), (9, .lit (.int .i64 x.size)), (10, .lit (.int .i64 k))], [.cells 148 (dArcD a)]⟩) (fun k => k ≤ x.size ∧ ∀ j, j < k → fitAt a x y j) (fun k => x.size - k) 0 ⟨Nat.zero_le _, fun j h => absurd h (Nat.not_lt_zero _)⟩ (weakZ []) ?_
  rintro k ⟨hk, hj⟩
  have hno : ∀ h : k < x.size, ¬ fitAt a x y k → false = decide (fitOk a x y) := fun h h' => by rw [eq_comm, decide_eq_false_iff_not]; exact fun hh => h' (hh k h)
  have hyes : ∀ h : k < x.size, fitAt a x y k → ∀ j, j < k + 1 → fitAt a x y j := fun h h' j hj' => by
    rcases Nat.lt_or_ge j k with h2 | h2
    · exact hj j h2
    · rw [show j = k by omega]; exact h'
  have hS : ∀ h : k < x.size, (k : Int) = a.sig → (fitAt a x y k ↔ ¬ (decide (bAt x (k : Int) = 49) = a.up) ∧ decide (bAt y (k : Int) = 49) = a.up) := fun h e => fit_sig e (hx k h) (hy k (by omega))
  repeat' (first | refine goZ ?_ | ((first | refine R_cond rfl (fun hq => ?_) fun hq => ?_ | refine R_guardT rfl rfl rfl (fun hq => ?_) fun hq => ?_ | refine R_guardF rfl rfl rfl (fun hq => ?_) fun hq => ?_ | refine D_guardT rfl rfl rfl (fun hq => ?_) fun hq => ?_ | refine D_guardF rfl rfl rfl (fun hq => ?_) fun hq => ?_) <;> (try rw [hq]) <;> first | have hp := of_decide_eq_true hq | have hp := of_decide_eq_false hq | have hp := of_decide_eq_false (not_t hq) | have hp := of_decide_eq_true (not_f hq) | have hp := hq))
  · exact ret_bool' rfl (hno (by omega) fun h => hp ((fit_off (by assumption)).1 h))
  · exact ⟨k + 1, ⟨by omega, hyes (by omega) ((fit_off (by assumption)).2 hp)⟩, by omega, weakZ []⟩
  · exact ret_bool' rfl (hno (by omega) fun h => hp ((hS (by omega) (by assumption)).1 h).2)
  · exact ⟨k + 1, ⟨by omega, hyes (by omega) ((hS (by omega) (by assumption)).2 ⟨by assumption, hp⟩)⟩, by omega, weakZ []⟩
  · exact ret_bool' rfl (hno (by omega) fun h => ((hS (by omega) (by assumption)).1 h).1 hp)
  · exact ret_bool' rfl (by rw [eq_comm, decide_eq_true_eq]; exact fun j h => hj j (by omega))

theorem l5Bit_f (b : Bool) : Fn Try.prog 198 [.lit (.bool b)] (.lit (.string (if b then ⟨#[49]⟩ else ⟨#[48]⟩))) [] := by
  refine Fn_of Try.func198 rfl (by kernel_rfl) rfl rfl ?_
  intro w0 A hin
  cases b
  · repeat' (first | refine goZ ?_ | ((first | refine R_cond rfl (fun hq => ?_) fun hq => ?_ | refine R_guardT rfl rfl rfl (fun hq => ?_) fun hq => ?_ | refine R_guardF rfl rfl rfl (fun hq => ?_) fun hq => ?_ | refine D_guardT rfl rfl rfl (fun hq => ?_) fun hq => ?_ | refine D_guardF rfl rfl rfl (fun hq => ?_) fun hq => ?_) <;> (try rw [hq]) <;> first | have hp := of_decide_eq_true hq | have hp := of_decide_eq_false hq | have hp := of_decide_eq_false (not_t hq) | have hp := of_decide_eq_true (not_f hq) | have hp := hq))
    exact ret_lit rfl rfl
  · repeat' (first | refine goZ ?_ | ((first | refine R_cond rfl (fun hq => ?_) fun hq => ?_ | refine R_guardT rfl rfl rfl (fun hq => ?_) fun hq => ?_ | refine R_guardF rfl rfl rfl (fun hq => ?_) fun hq => ?_ | refine D_guardT rfl rfl rfl (fun hq => ?_) fun hq => ?_ | refine D_guardF rfl rfl rfl (fun hq => ?_) fun hq => ?_) <;> (try rw [hq]) <;> first | have hp := of_decide_eq_true hq | have hp := of_decide_eq_false hq | have hp := of_decide_eq_false (not_t hq) | have hp := of_decide_eq_true (not_f hq) | have hp := hq))
    exact ret_lit rfl rfl

theorem l5Set_f (s : ByteArray) (i : Int) (b : ByteArray) (hi : 0 ≤ i ∧ i < s.size) (hs : s.size ≤ 8) (hb : b.size = 1) : Fn Try.prog 197 [.lit (.string s), .lit (.int .i64 i), .lit (.string b)] (.lit (.string (setB s i b))) [] := by
  refine Fn_of Try.func197 rfl (by kernel_rfl) rfl rfl ?_
  intro w0 A hin
  have hs1 : (s.extract 0 i.toNat).size = i.toNat := by rw [ByteArray.size_extract]; omega
  have hs2 : (s.extract (i + 1).toNat s.size).size = s.size - (i.toNat + 1) := by rw [ByteArray.size_extract]; omega
  have hs3 : (s.extract 0 i.toNat ++ b).size = i.toNat + 1 := by rw [ByteArray.size_append, hs1, hb]
  repeat' (first | refine goZ ?_ | ((first | refine R_cond rfl (fun hq => ?_) fun hq => ?_ | refine R_guardT rfl rfl rfl (fun hq => ?_) fun hq => ?_ | refine R_guardF rfl rfl rfl (fun hq => ?_) fun hq => ?_ | refine D_guardT rfl rfl rfl (fun hq => ?_) fun hq => ?_ | refine D_guardF rfl rfl rfl (fun hq => ?_) fun hq => ?_) <;> (try rw [hq]) <;> first | have hp := of_decide_eq_true hq | have hp := of_decide_eq_false hq | have hp := of_decide_eq_false (not_t hq) | have hp := of_decide_eq_true (not_f hq) | have hp := hq))
  exact ret_lit rfl rfl

/-! ### Graphs -/
def arcB (c : SGraph) (a : ArcD) : Bool := decide (0 ≤ a.src ∧ a.src ≤ (c.codes.length : Int) - 1) && (decide (0 ≤ a.dst ∧ a.dst ≤ (c.codes.length : Int) - 1) && (labB ⟨a.sig, a.up⟩ c.signals.length && decide (fitOk a (nth c.codes a.src.toNat) (nth c.codes a.dst.toNat))))
/-- All states are reached from the first. -/
def allReach (c : SGraph) : Prop := ∀ v : Nat, v < c.codes.length → 0 ≤ dist (arcE c.arcs) 0 v
noncomputable instance (c : SGraph) : Decidable (allReach c) := Classical.propDecidable _
def sgA (c : SGraph) : Bool := sigsB c.signals && (decide (1 ≤ (c.codes.length : Int) ∧ (c.codes.length : Int) ≤ 300) && decide (c.arcs.length ≤ 4000))
def sgB (c : SGraph) : Bool := sgA c && (c.codes.all (fun x => codeB x c.signals.length) && c.arcs.all (arcB c))
noncomputable def goodSG (c : SGraph) : Bool := sgB c && decide (allReach c)
theorem codeB_ok {s : ByteArray} {n : Int} (h : codeB s n = true) : bitsOk s ∧ (s.size : Int) = n := by simpa [codeB] using h
theorem sgA_len {c : SGraph} (h : sgA c = true) : 1 ≤ c.signals.length ∧ c.signals.length ≤ 8 ∧ 1 ≤ c.codes.length ∧ c.codes.length ≤ 300 ∧ c.arcs.length ≤ 4000 := by
  simp only [sgA, sigsB, Bool.and_eq_true, decide_eq_true_eq] at h; omega

theorem l5Arc_f (c : SGraph) (a : ArcD) (hA : sgA c = true) (hc : c.codes.all (fun x => codeB x c.signals.length) = true) : Fn Try.prog 175 [.agg (dSGraph c), .agg (dArcD a)] (.lit (.bool (arcB c a))) [] := by
  refine Fn_of Try.func175 rfl (by kernel_rfl) rfl rfl ?_
  intro w0 A hin
  have hb := sgA_len hA
  have hz := len_strs c.codes
  have hz2 := len_dSig c.signals
  have hC : ∀ i : Int, 0 ≤ i → i ≤ (c.codes.length : Int) - 1 → bitsOk (nth c.codes i.toNat) ∧ ((nth c.codes i.toNat).size : Int) = c.signals.length := fun i h1 h2 => codeB_ok (List.all_eq_true.1 hc _ (nth_mem (by omega)))
  have hz3 : 0 ≤ a.src ∧ a.src ≤ (c.codes.length : Int) - 1 → ((nth c.codes a.src.toNat).size : Int) = c.signals.length := fun h => (hC _ h.1 h.2).2
  have hz4 : 0 ≤ a.dst ∧ a.dst ≤ (c.codes.length : Int) - 1 → ((nth c.codes a.dst.toNat).size : Int) = c.signals.length := fun h => (hC _ h.1 h.2).2
  have hL := l2Label_f ⟨a.sig, a.up⟩ (c.signals.length : Int) (by omega)
  cases hlab : labB ⟨a.sig, a.up⟩ (c.signals.length : Int) <;> rw [hlab] at hL
  · have hn : arcB c a = false := by simp only [arcB, hlab, Bool.false_and, Bool.and_false]
    rw [hn]
    rw [← hz2] at hL
    repeat' (first | refine goZ ?_ | refine R_callZ rfl (l1In_f _ _ _) rfl rfl rfl ?_ | refine R_callZ rfl (hL) rfl rfl rfl ?_ | refine R_callvZ rfl (l1In_f _ _ _) rfl rfl rfl rfl ?_ | refine R_callvZ rfl (hL) rfl rfl rfl rfl ?_ | refine D_callZ rfl (l1In_f _ _ _) rfl rfl rfl ?_ | refine D_callZ rfl (hL) rfl rfl rfl ?_ | ((first | refine R_cond rfl (fun hq => ?_) fun hq => ?_ | refine R_guardT rfl rfl rfl (fun hq => ?_) fun hq => ?_ | refine R_guardF rfl rfl rfl (fun hq => ?_) fun hq => ?_ | refine D_guardT rfl rfl rfl (fun hq => ?_) fun hq => ?_ | refine D_guardF rfl rfl rfl (fun hq => ?_) fun hq => ?_) <;> (try rw [hq]) <;> first | have hp := of_decide_eq_true hq | have hp := of_decide_eq_false hq | have hp := of_decide_eq_false (not_t hq) | have hp := of_decide_eq_true (not_f hq) | have hp := hq))
    all_goals exact ret_bool' rfl rfl
  · have hsg : (0 ≤ a.sig ∧ a.sig ≤ (c.signals.length : Int) - 1) ∨ a.sig = -1 := by
      simp only [labB, Bool.or_eq_true, Bool.and_eq_true, decide_eq_true_eq] at hlab
      exact hlab.imp id fun h => h.1
    have hnS : ¬ (0 ≤ a.src ∧ a.src ≤ (c.codes.length : Int) - 1) → false = arcB c a := fun h => by
      rw [eq_comm]; simp only [arcB, decide_eq_false h, Bool.false_and]
    have hnD : ¬ (0 ≤ a.dst ∧ a.dst ≤ (c.codes.length : Int) - 1) → false = arcB c a := fun h => by
      rw [eq_comm]; simp only [arcB, decide_eq_false h, Bool.false_and, Bool.and_false]
    have hyA : ∀ b : Bool, (0 ≤ a.src ∧ a.src ≤ (c.codes.length : Int) - 1) → (0 ≤ a.dst ∧ a.dst ≤ (c.codes.length : Int) - 1) → (b = true ↔ fitOk a (nth c.codes a.src.toNat) (nth c.codes a.dst.toNat)) → b = arcB c a := fun b h1 h2 h3 => by
      simp only [arcB, decide_eq_true h1, decide_eq_true h2, hlab, Bool.true_and]
      rw [Bool.eq_iff_iff, decide_eq_true_eq]; exact h3
    rw [← hz2] at hL
    repeat' (first | refine goZ ?_ | refine R_callZ rfl (l1In_f _ _ _) rfl rfl rfl ?_ | refine R_callZ rfl (hL) rfl rfl rfl ?_ | refine R_callZ rfl (l5Bit_f _) rfl rfl rfl ?_ | refine R_callZ rfl (l5Set_f _ _ _ (by omega) (by omega) (by split <;> rfl)) rfl rfl rfl ?_ | refine R_callvZ rfl (l1In_f _ _ _) rfl rfl rfl rfl ?_ | refine R_callvZ rfl (hL) rfl rfl rfl rfl ?_ | refine R_callvZ rfl (l5Bit_f _) rfl rfl rfl rfl ?_ | refine R_callvZ rfl (l5Set_f _ _ _ (by omega) (by omega) (by split <;> rfl)) rfl rfl rfl rfl ?_ | refine D_callZ rfl (l1In_f _ _ _) rfl rfl rfl ?_ | refine D_callZ rfl (hL) rfl rfl rfl ?_ | refine D_callZ rfl (l5Bit_f _) rfl rfl rfl ?_ | refine D_callZ rfl (l5Set_f _ _ _ (by omega) (by omega) (by split <;> rfl)) rfl rfl rfl ?_ | ((first | refine R_cond rfl (fun hq => ?_) fun hq => ?_ | refine R_guardT rfl rfl rfl (fun hq => ?_) fun hq => ?_ | refine R_guardF rfl rfl rfl (fun hq => ?_) fun hq => ?_ | refine D_guardT rfl rfl rfl (fun hq => ?_) fun hq => ?_ | refine D_guardF rfl rfl rfl (fun hq => ?_) fun hq => ?_) <;> (try rw [hq]) <;> first | have hp := of_decide_eq_true hq | have hp := of_decide_eq_false hq | have hp := of_decide_eq_false (not_t hq) | have hp := of_decide_eq_true (not_f hq) | have hp := hq))
    · refine ret_bool' rfl (hyA _ (by omega) (by omega) ?_)
      have e1 := hz3 (by omega); have e2 := hz4 (by omega)
      rw [decide_eq_true_eq, bytes_eq (by omega)]
      exact forall_congr' fun j => forall_congr' fun h => (fit_off (by omega)).symm
    · have e1 := hz3 (by omega); have e2 := hz4 (by omega)
      have hs1 : (0 ≤ a.sig ∧ a.sig < ((nth c.codes a.src.toNat).size : Int)) := by omega
      have hs2 : (0 ≤ a.sig ∧ a.sig < ((nth c.codes a.dst.toNat).size : Int)) := by omega
      have q1 := (setB_eq (c := bitI (!a.up)) (by omega) hs2 (by split <;> rfl) (by cases a.up <;> rfl)).1 hp
      have q2 := @setB_eq (nth c.codes a.dst.toNat) (nth c.codes a.src.toNat) (if a.up = true then { data := #[49] } else { data := #[48] }) a.sig (bitI a.up) (by omega) hs1 (by split <;> rfl) (by cases a.up <;> rfl)
      refine ret_bool' rfl (hyA _ (by omega) (by omega) ?_)
      rw [decide_eq_true_eq, q2]
      constructor
      · intro q3 j hj
        have a1 := q1 j hj; have a2 := q3 j (by omega)
        unfold fitAt
        by_cases e : (j : Int) = a.sig
        · rw [if_pos e] at a1 a2 ⊢; exact ⟨a1, a2⟩
        · rw [if_neg e] at a1 ⊢; exact a1
      · intro q3 j hj
        have a1 := q3 j (by omega)
        unfold fitAt at a1
        by_cases e : (j : Int) = a.sig
        · rw [if_pos e] at a1 ⊢; exact a1.2
        · rw [if_neg e] at a1 ⊢; exact a1.symm
    · have e1 := hz3 (by omega); have e2 := hz4 (by omega)
      have hs2 : (0 ≤ a.sig ∧ a.sig < ((nth c.codes a.dst.toNat).size : Int)) := by omega
      refine ret_bool' rfl (hyA _ (by omega) (by omega) ⟨fun h => by simp at h, fun q3 => absurd ?_ hp⟩)
      refine (setB_eq (c := bitI (!a.up)) (by omega) hs2 (by split <;> rfl) (by cases a.up <;> rfl)).2 fun j hj => ?_
      have a1 := q3 j hj
      unfold fitAt at a1
      by_cases e : (j : Int) = a.sig
      · rw [if_pos e] at a1 ⊢; exact a1.1
      · rw [if_neg e] at a1 ⊢; exact a1
    · exact ret_bool' rfl (hnD (by omega))
    · exact ret_bool' rfl (hnS (by omega))

/-! ### What is reached -/
def metAt (l : List Bool) (v : Int) : Bool := nth l v.toNat
structure Met (E : List (Int × Int)) (n r : Nat) (l : List Bool) : Prop where
  len : l.length = n
  sound : ∀ v : Int, 0 ≤ v → v < n → metAt l v = true → 0 ≤ dist E 0 v
  full : ∀ v : Int, 0 ≤ v → v < n → 0 ≤ dist E 0 v → dist E 0 v ≤ r → metAt l v = true
theorem metAt_set {l : List Bool} {v x : Int} {b : Bool} (hv : 0 ≤ v ∧ v < l.length) (hx : 0 ≤ x) : metAt (l.set v.toNat b) x = if x = v then b else metAt l x := by
  unfold metAt
  split
  · rename_i e; subst e; exact nth_set_self (by omega)
  · exact nth_set_ne (by omega)
theorem met_init {E : List (Int × Int)} {n : Nat} (hn : 1 ≤ n) (hE : ∀ e ∈ E, 0 ≤ e.2 ∧ e.2 < n) : Met E n 0 ((List.replicate n false).set 0 true) := by
  have hat : ∀ v : Int, 0 ≤ v → v < n → metAt ((List.replicate n false).set 0 true) v = decide (v = 0) := by
    intro v h0 h1
    rw [show (0 : Nat) = (0 : Int).toNat from rfl, metAt_set (by simp; omega) h0]
    split
    · rename_i e; simp [e]
    · rename_i e; unfold metAt; rw [nth_get (by simp; omega)]; simp [e]
  refine ⟨by simp, fun v h0 h1 h2 => ?_, fun v h0 h1 h2 h3 => ?_⟩
  · rw [hat v h0 h1, decide_eq_true_eq] at h2; subst h2; rw [dist_start]; exact Int.le_refl _
  · rw [hat v h0 h1, decide_eq_true_eq]
    have h4 : dist E 0 v = ((0 : Nat) : Int) := by omega
    have hw := dist_walk h2
    rw [h4] at hw
    cases hw; rfl
/-- In the middle of a round. -/
structure MetR (E : List (Int × Int)) (n r k : Nat) (l : List Bool) : Prop where
  len : l.length = n
  sound : ∀ v : Int, 0 ≤ v → v < n → metAt l v = true → 0 ≤ dist E 0 v
  full : ∀ v : Int, 0 ≤ v → v < n → 0 ≤ dist E 0 v → dist E 0 v ≤ r → metAt l v = true
  seen : ∀ j, j < k → j < E.length → 0 ≤ dist E 0 (nth E j).1 → dist E 0 (nth E j).1 ≤ r → metAt l (nth E j).2 = true
section
variable {E : List (Int × Int)} {n r k : Nat} {l : List Bool}
theorem metR_init (h : Met E n r l) : MetR E n r 0 l := ⟨h.len, h.sound, h.full, fun j hj => by omega⟩
theorem metR_yes (h : MetR E n r k l) (hk : k < E.length) (hE : ∀ e ∈ E, (0 ≤ e.1 ∧ e.1 < n) ∧ 0 ≤ e.2 ∧ e.2 < n) (hm : metAt l (nth E k).1 = true) : MetR E n r (k + 1) (l.set (nth E k).2.toNat true) := by
  have hb := hE _ (nth_mem hk)
  have hl := h.len
  have hat : ∀ x : Int, 0 ≤ x → metAt (l.set (nth E k).2.toNat true) x = if x = (nth E k).2 then true else metAt l x := fun x hx => metAt_set (by omega) hx
  have hd := h.sound _ hb.1.1 hb.1.2 hm
  have hd2 := dist_step (show ((nth E k).1, (nth E k).2) ∈ E from nth_mem hk) hd
  refine ⟨by simpa using hl, fun v h0 h1 h2 => ?_, fun v h0 h1 h2 h3 => ?_, fun j hj hjl h2 h3 => ?_⟩
  · rw [hat v h0] at h2
    split at h2
    · rename_i e; subst e; exact hd2.1
    · exact h.sound v h0 h1 h2
  · rw [hat v h0]; split
    · rfl
    · exact h.full v h0 h1 h2 h3
  · rw [hat _ (hE _ (nth_mem hjl)).2.1]
    split
    · rfl
    · rename_i hne
      rcases Nat.lt_or_ge j k with h4 | h4
      · exact h.seen j h4 hjl h2 h3
      · have : j = k := by omega
        subst this; exact absurd rfl hne
theorem metR_no (h : MetR E n r k l) (hk : k < E.length) (hE : ∀ e ∈ E, (0 ≤ e.1 ∧ e.1 < n) ∧ 0 ≤ e.2 ∧ e.2 < n) (hm : ¬ metAt l (nth E k).1 = true) : MetR E n r (k + 1) l := by
  refine ⟨h.len, h.sound, h.full, fun j hj hjl h2 h3 => ?_⟩
  rcases Nat.lt_or_ge j k with h4 | h4
  · exact h.seen j h4 hjl h2 h3
  · have : j = k := by omega
    subst this
    have hb := hE _ (nth_mem hjl)
    exact absurd (h.full _ hb.1.1 hb.1.2 h2 h3) hm
theorem metR_end (h : MetR E n r k l) (hk : ¬ k < E.length) (hE : ∀ e ∈ E, (0 ≤ e.1 ∧ e.1 < n) ∧ 0 ≤ e.2 ∧ e.2 < n) : Met E n (r + 1) l := by
  refine ⟨h.len, h.sound, fun v h0 h1 h2 h3 => ?_⟩
  by_cases h4 : dist E 0 v ≤ r
  · exact h.full v h0 h1 h2 h4
  · obtain ⟨u, hu, e⟩ := dist_pred (show 0 < dist E 0 v by omega)
    obtain ⟨j, hj, e1⟩ := List.getElem_of_mem hu
    have := h.seen j (by omega) hj
    rw [nth_get hj, e1] at this
    exact this (by dsimp only; omega) (by dsimp only; omega)
theorem met_all (h : Met E n r l) (hr : n ≤ r) (hn : 1 ≤ n) (hE : ∀ e ∈ E, (0 ≤ e.1 ∧ e.1 < n) ∧ 0 ≤ e.2 ∧ e.2 < n) : (∀ v : Nat, v < n → nth l v = true) ↔ ∀ v : Nat, v < n → 0 ≤ dist E 0 v := by
  constructor
  · intro h1 v hv
    exact h.sound v (by omega) (by omega) (by unfold metAt; rw [Int.toNat_natCast]; exact h1 v hv)
  · intro h1 v hv
    have h2 := dist_lt (v := (v : Int)) (fun e he => (hE e he).2) (show 0 ≤ (0 : Int) ∧ (0 : Int) < n by omega)
    have := h.full v (by omega) (by omega) (h1 v hv) (by omega)
    unfold metAt at this; rw [Int.toNat_natCast] at this; exact this
end
end Go.Proofs.Ytcbfpeplcbgpjaa
