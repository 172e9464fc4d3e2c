/- Signal transition graphs: which are valid. No condition. -/
import Derived.Test.YtcpjhpjlcgcigaaGreatDoorIx
import Derived.Test.YtcpjhpjlcgcigaaGreatDoorEqs
set_option linter.unusedSimpArgs false
set_option linter.unusedVariables false
set_option maxHeartbeats 2000000
namespace Go.Proofs.YtcpjhpjlcgcigaaGreatDoor
open Go.ChangeShapes Go.WideShapes Go.ChangeAt Go.RowKit

def lett (s : ByteArray) (j : Nat) : Prop := 97 ≤ bAt s j ∧ bAt s j ≤ 122
def digt (s : ByteArray) (j : Nat) : Prop := 48 ≤ bAt s j ∧ bAt s j ≤ 57
instance (s : ByteArray) (j : Nat) : Decidable (lett s j) := inferInstanceAs (Decidable (_ ∧ _))
instance (s : ByteArray) (j : Nat) : Decidable (digt s j) := inferInstanceAs (Decidable (_ ∧ _))
def nameOk (s : ByteArray) : Prop := ∀ j, j < s.size → lett s j ∨ (digt s j ∧ 0 < j)
instance (s : ByteArray) : Decidable (nameOk s) := inferInstanceAs (Decidable (∀ j, j < s.size → _))
def nameB (s : ByteArray) : Bool := decide (nameOk s) && decide (1 ≤ (s.size : Int) ∧ (s.size : Int) ≤ 6)

theorem name_no {s : ByteArray} {k : Nat} (hk : k < s.size) (h : ¬ (lett s k ∨ (digt s k ∧ 0 < k))) : false = nameB s := by
  rw [eq_comm, nameB, Bool.and_eq_false_iff]; left
  rw [decide_eq_false_iff_not]; exact fun h' => h (h' k hk)
theorem name_yes {s : ByteArray} {k : Nat} (hk : ¬ k < s.size) (h : ∀ j, j < k → lett s j ∨ (digt s j ∧ 0 < j)) : decide (1 ≤ (s.size : Int) ∧ (s.size : Int) ≤ 6) = nameB s := by
  rw [nameB, decide_eq_true (p := nameOk s) fun j hj => h j (by omega), Bool.true_and]

theorem isName_f (s : ByteArray) : Fn Tryz.prog 89 [.lit (.string s)] (.lit (.bool (nameB s))) [] := by
  refine Fn_of Tryz.func89 rfl (by kernel_rfl) rfl rfl ?_
  intro w0 A hin
  have hl := given_str hin (i := 0) rfl
  repeat' (first | refine goZ ?_ | ((first | refine R_cond rfl (fun hq => ?_) fun hq => ?_ | refine R_guardT rfl rfl rfl (fun hq => ?_) fun hq => ?_ | refine R_guardF rfl rfl rfl (fun hq => ?_) fun hq => ?_ | refine D_guardT rfl rfl rfl (fun hq => ?_) fun hq => ?_ | refine D_guardF rfl rfl rfl (fun hq => ?_) fun hq => ?_) <;> (try rw [hq]) <;> first | have hp := of_decide_eq_true hq | have hp := of_decide_eq_false hq | have hp := of_decide_eq_false (not_t hq) | have hp := of_decide_eq_true (not_f hq) | have hp := hq))
  refine W_loop (fun k : Nat => ⟨_, [(0, .lit (.string s)), (3, .lit (.int .i64 k))], []⟩) (fun k => k ≤ s.size ∧ ∀ j, j < k → lett s j ∨ (digt s j ∧ 0 < j)) (fun k => s.size - k) 0 ⟨Nat.zero_le _, by omega⟩ (weakZ []) ?_
  rintro k ⟨hk, hj⟩
  repeat' (first | refine goZ ?_ | refine R_callZ rfl (within_f _ _ _) rfl rfl rfl ?_ | refine R_callvZ rfl (within_f _ _ _) rfl rfl rfl rfl ?_ | refine D_callZ rfl (within_f _ _ _) rfl rfl rfl ?_ | ((first | refine R_cond rfl (fun hq => ?_) fun hq => ?_ | refine R_guardT rfl rfl rfl (fun hq => ?_) fun hq => ?_ | refine R_guardF rfl rfl rfl (fun hq => ?_) fun hq => ?_ | refine D_guardT rfl rfl rfl (fun hq => ?_) fun hq => ?_ | refine D_guardF rfl rfl rfl (fun hq => ?_) fun hq => ?_) <;> (try rw [hq]) <;> first | have hp := of_decide_eq_true hq | have hp := of_decide_eq_false hq | have hp := of_decide_eq_false (not_t hq) | have hp := of_decide_eq_true (not_f hq) | have hp := hq))
  all_goals first
    | exact ⟨k + 1, ⟨by omega, fun j hj' => by (by_cases e : j = k; (subst e; unfold lett digt; omega); exact hj j (by omega))⟩, by omega, weakZ []⟩
    | exact ret_bool' rfl (name_no (k := k) (by omega) (by unfold lett digt; omega))
    | exact ret_bool' rfl (name_yes (k := k) (by omega) hj)

theorem l2Name_f (s : ByteArray) : Fn Tryz.prog 58 [.lit (.string s)] (.lit (.bool (nameB s))) [] := by
  refine Fn_of Tryz.func58 rfl (by kernel_rfl) rfl rfl ?_
  intro w0 A hin
  have hl := given_str hin (i := 0) rfl
  repeat' (first | refine goZ ?_ | ((first | refine R_cond rfl (fun hq => ?_) fun hq => ?_ | refine R_guardT rfl rfl rfl (fun hq => ?_) fun hq => ?_ | refine R_guardF rfl rfl rfl (fun hq => ?_) fun hq => ?_ | refine D_guardT rfl rfl rfl (fun hq => ?_) fun hq => ?_ | refine D_guardF rfl rfl rfl (fun hq => ?_) fun hq => ?_) <;> (try rw [hq]) <;> first | have hp := of_decide_eq_true hq | have hp := of_decide_eq_false hq | have hp := of_decide_eq_false (not_t hq) | have hp := of_decide_eq_true (not_f hq) | have hp := hq))
  refine W_loop (fun k : Nat => ⟨_, [(0, .lit (.string s)), (3, .lit (.int .i64 k))], []⟩) (fun k => k ≤ s.size ∧ ∀ j, j < k → lett s j ∨ (digt s j ∧ 0 < j)) (fun k => s.size - k) 0 ⟨Nat.zero_le _, by omega⟩ (weakZ []) ?_
  rintro k ⟨hk, hj⟩
  repeat' (first | refine goZ ?_ | refine R_callZ rfl (l1In_f _ _ _) rfl rfl rfl ?_ | refine R_callvZ rfl (l1In_f _ _ _) rfl rfl rfl rfl ?_ | refine D_callZ rfl (l1In_f _ _ _) rfl rfl rfl ?_ | ((first | refine R_cond rfl (fun hq => ?_) fun hq => ?_ | refine R_guardT rfl rfl rfl (fun hq => ?_) fun hq => ?_ | refine R_guardF rfl rfl rfl (fun hq => ?_) fun hq => ?_ | refine D_guardT rfl rfl rfl (fun hq => ?_) fun hq => ?_ | refine D_guardF rfl rfl rfl (fun hq => ?_) fun hq => ?_) <;> (try rw [hq]) <;> first | have hp := of_decide_eq_true hq | have hp := of_decide_eq_false hq | have hp := of_decide_eq_false (not_t hq) | have hp := of_decide_eq_true (not_f hq) | have hp := hq))
  all_goals first
    | exact ⟨k + 1, ⟨by omega, fun j hj' => by (by_cases e : j = k; (subst e; unfold lett digt; omega); exact hj j (by omega))⟩, by omega, weakZ []⟩
    | exact ret_bool' rfl (name_no (k := k) (by omega) (by unfold lett digt; omega))
    | exact ret_bool' rfl (name_yes (k := k) (by omega) hj)

/-! ### signals -/
def sigOk (x : Sig) : Bool := nameB x.name && decide (1 ≤ x.kind ∧ x.kind ≤ 3)
def sigsOk (l : List Sig) : Prop := ∀ j, j < l.length → sigOk (nth l j) = true ∧ ∀ i, i < j → (nth l j).name ≠ (nth l i).name
instance (l : List Sig) : Decidable (sigsOk l) := inferInstanceAs (Decidable (∀ j, j < l.length → _))
def sigsB (l : List Sig) : Bool := decide (sigsOk l) && decide (1 ≤ (l.length : Int) ∧ (l.length : Int) ≤ 8)

theorem areSignals1_f (x y : Sig) : Fn Tryz.prog 92 [.agg (dSig y), .sptr (dSig x)] (.lit (.bool (decide (y.name = x.name)))) [] := by
  refine Fn_of Tryz.func92 rfl (by kernel_rfl) rfl rfl ?_
  intro w0 A hin
  repeat' (first | refine goZ ?_ | ((first | refine R_cond rfl (fun hq => ?_) fun hq => ?_ | refine R_guardT rfl rfl rfl (fun hq => ?_) fun hq => ?_ | refine R_guardF rfl rfl rfl (fun hq => ?_) fun hq => ?_ | refine D_guardT rfl rfl rfl (fun hq => ?_) fun hq => ?_ | refine D_guardF rfl rfl rfl (fun hq => ?_) fun hq => ?_) <;> (try rw [hq]) <;> first | have hp := of_decide_eq_true hq | have hp := of_decide_eq_false hq | have hp := of_decide_eq_false (not_t hq) | have hp := of_decide_eq_true (not_f hq) | have hp := hq))
  exact ret_bool' rfl rfl

theorem sigs_no {l : List Sig} {k : Nat} (hk : k < l.length) (h : sigOk (nth l k) = true → ∃ i, i < k ∧ (nth l k).name = (nth l i).name) : false = sigsB l := by
  rw [eq_comm, sigsB, Bool.and_eq_false_iff]; left
  rw [decide_eq_false_iff_not]; intro h'
  obtain ⟨i, hi, e⟩ := h (h' k hk).1
  exact (h' k hk).2 i hi e
theorem sigs_yes {l : List Sig} {k : Nat} (hk : ¬ k < l.length) (h : ∀ j, j < k → sigOk (nth l j) = true ∧ ∀ i, i < j → (nth l j).name ≠ (nth l i).name) : decide (1 ≤ (l.length : Int) ∧ (l.length : Int) ≤ 8) = sigsB l := by
  rw [sigsB, decide_eq_true (p := sigsOk l) fun j hj => h j (by omega), Bool.true_and]
theorem any_take {α : Type} [Inhabited α] (l : List α) (p : α → Bool) {k : Nat} (hk : k ≤ l.length) : (l.take k).any p = true ↔ ∃ i, i < k ∧ p (nth l i) = true := by
  rw [List.any_eq_true]
  constructor
  · rintro ⟨x, hx, hp⟩
    obtain ⟨i, hi, rfl⟩ := List.getElem_of_mem hx
    simp only [List.length_take] at hi
    refine ⟨i, by omega, ?_⟩
    rw [nth_get (by omega)]; simpa using hp
  · rintro ⟨i, hi, hp⟩
    refine ⟨nth l i, ?_, hp⟩
    rw [nth_get (by omega), List.mem_take_iff_getElem]
    exact ⟨i, by omega, rfl⟩

theorem areSignals_f (l : List Sig) : Fn Tryz.prog 67 [.sh 2 (l.map dSig)] (.lit (.bool (sigsB l))) [] := by
  refine Fn_of Tryz.func67 rfl (by kernel_rfl) rfl rfl ?_
  intro w0 A hin
  have hl := given_len hin (i := 0) rfl
  have hz := len_dSig l
  have hC : ∀ k : Nat, Fn Tryz.prog 91 [.sh 2 ((l.map dSig).take (k : Int).toNat), .fn 92 [.sptr (dSig (nth l k))]] (.lit (.bool ((l.take k).any fun y => decide (y.name = (nth l k).name)))) [] := by
    intro k
    rw [Int.toNat_natCast, ← List.map_take]
    exact ContainsFunc_Sig_f _ _ _ _ fun y _ => areSignals1_f _ y
  repeat' (first | refine goZ ?_ | ((first | refine R_cond rfl (fun hq => ?_) fun hq => ?_ | refine R_guardT rfl rfl rfl (fun hq => ?_) fun hq => ?_ | refine R_guardF rfl rfl rfl (fun hq => ?_) fun hq => ?_ | refine D_guardT rfl rfl rfl (fun hq => ?_) fun hq => ?_ | refine D_guardF rfl rfl rfl (fun hq => ?_) fun hq => ?_) <;> (try rw [hq]) <;> first | have hp := of_decide_eq_true hq | have hp := of_decide_eq_false hq | have hp := of_decide_eq_false (not_t hq) | have hp := of_decide_eq_true (not_f hq) | have hp := hq))
  refine W_loop (fun k : Nat => ⟨_, [(0, .sh 2 (l.map dSig)), (5, .sh 2 (l.map dSig)), (6, .lit (.int .i64 l.length)), (7, .lit (.int .i64 k))], []⟩) (fun k => k ≤ l.length ∧ ∀ j, j < k → sigOk (nth l j) = true ∧ ∀ i, i < j → (nth l j).name ≠ (nth l i).name) (fun k => l.length - k) 0 ⟨Nat.zero_le _, by omega⟩ (weakZ []) ?_
  rintro k ⟨hk, hj⟩
  repeat' (first | refine goZ ?_ | refine R_callZ rfl (isName_f _) rfl rfl rfl ?_ | refine R_callZ rfl (within_f _ _ _) rfl rfl rfl ?_ | refine R_callZ rfl (hC _) rfl rfl rfl ?_ | refine R_callvZ rfl (isName_f _) rfl rfl rfl rfl ?_ | refine R_callvZ rfl (within_f _ _ _) rfl rfl rfl rfl ?_ | refine R_callvZ rfl (hC _) rfl rfl rfl rfl ?_ | refine D_callZ rfl (isName_f _) rfl rfl rfl ?_ | refine D_callZ rfl (within_f _ _ _) rfl rfl rfl ?_ | refine D_callZ rfl (hC _) rfl rfl rfl ?_ | ((first | refine R_cond rfl (fun hq => ?_) fun hq => ?_ | refine R_guardT rfl rfl rfl (fun hq => ?_) fun hq => ?_ | refine R_guardF rfl rfl rfl (fun hq => ?_) fun hq => ?_ | refine D_guardT rfl rfl rfl (fun hq => ?_) fun hq => ?_ | refine D_guardF rfl rfl rfl (fun hq => ?_) fun hq => ?_) <;> (try rw [hq]) <;> first | have hp := of_decide_eq_true hq | have hp := of_decide_eq_false hq | have hp := of_decide_eq_false (not_t hq) | have hp := of_decide_eq_true (not_f hq) | have hp := hq))
  · exact ret_bool' rfl (sigs_no (k := k) (by omega) fun _ => by
      obtain ⟨i, hi, h⟩ := (any_take l _ hk).1 hq
      exact ⟨i, hi, (of_decide_eq_true h).symm⟩)
  · refine ⟨k + 1, ⟨by omega, fun j hj' => ?_⟩, by omega, weakZ _⟩
    by_cases e : j = k
    · subst e
      refine ⟨by simp_all [sigOk], fun i hi e => ?_⟩
      have := (any_take l (fun y => decide (y.name = (nth l j).name)) hk).2 ⟨i, hi, by simp [e]⟩
      rw [this] at hq; exact Bool.noConfusion hq
    · exact hj j (by omega)
  · exact ret_bool' rfl (sigs_no (k := k) (by omega) fun h => absurd h (by rw [sigOk, decide_eq_false hp]; simp))
  · exact ret_bool' rfl (sigs_no (k := k) (by omega) fun h => by simp_all [sigOk])
  · exact ret_bool' rfl (by rw [hz]; exact sigs_yes (k := k) (by omega) hj)

theorem l2Signals_f (l : List Sig) : Fn Tryz.prog 32 [.sh 2 (l.map dSig)] (.lit (.bool (sigsB l))) [] := by
  refine Fn_of Tryz.func32 rfl (by kernel_rfl) rfl rfl ?_
  intro w0 A hin
  have hl := given_len hin (i := 0) rfl
  have hz := len_dSig l
  repeat' (first | refine goZ ?_ | ((first | refine R_cond rfl (fun hq => ?_) fun hq => ?_ | refine R_guardT rfl rfl rfl (fun hq => ?_) fun hq => ?_ | refine R_guardF rfl rfl rfl (fun hq => ?_) fun hq => ?_ | refine D_guardT rfl rfl rfl (fun hq => ?_) fun hq => ?_ | refine D_guardF rfl rfl rfl (fun hq => ?_) fun hq => ?_) <;> (try rw [hq]) <;> first | have hp := of_decide_eq_true hq | have hp := of_decide_eq_false hq | have hp := of_decide_eq_false (not_t hq) | have hp := of_decide_eq_true (not_f hq) | have hp := hq))
  refine W_loop (fun k : Nat => ⟨_, [(0, .sh 2 (l.map dSig)), (7, .sh 2 (l.map dSig)), (8, .lit (.int .i64 l.length)), (9, .lit (.int .i64 k))], []⟩) (fun k => k ≤ l.length ∧ ∀ j, j < k → sigOk (nth l j) = true ∧ ∀ i, i < j → (nth l j).name ≠ (nth l i).name) (fun k => l.length - k) 0 ⟨Nat.zero_le _, by omega⟩ (weakZ []) ?_
  rintro k ⟨hk, hj⟩
  repeat' (first | refine goZ ?_ | refine R_callZ rfl (l2Name_f _) rfl rfl rfl ?_ | refine R_callZ rfl (l1In_f _ _ _) rfl rfl rfl ?_ | refine R_callvZ rfl (l2Name_f _) rfl rfl rfl rfl ?_ | refine R_callvZ rfl (l1In_f _ _ _) rfl rfl rfl rfl ?_ | refine D_callZ rfl (l2Name_f _) rfl rfl rfl ?_ | refine D_callZ rfl (l1In_f _ _ _) rfl rfl rfl ?_ | ((first | refine R_cond rfl (fun hq => ?_) fun hq => ?_ | refine R_guardT rfl rfl rfl (fun hq => ?_) fun hq => ?_ | refine R_guardF rfl rfl rfl (fun hq => ?_) fun hq => ?_ | refine D_guardT rfl rfl rfl (fun hq => ?_) fun hq => ?_ | refine D_guardF rfl rfl rfl (fun hq => ?_) fun hq => ?_) <;> (try rw [hq]) <;> first | have hp := of_decide_eq_true hq | have hp := of_decide_eq_false hq | have hp := of_decide_eq_false (not_t hq) | have hp := of_decide_eq_true (not_f hq) | have hp := hq))
  · exact ret_bool' rfl (sigs_no (k := k) (by omega) fun h => absurd h (by rw [sigOk, decide_eq_false hp]; simp))
  · have hok : sigOk (nth l k) = true := by rw [sigOk, decide_eq_true hp]; simp_all
    have hzk : (l.take k).length = k := by simp; omega
    have hzm : ((l.take k).map dSig).length = k := by simp; omega
    have hnk : ∀ m, m < k → nth (l.take k) m = nth l m := fun m hm => by rw [nth_get (by omega), nth_get (by omega)]; simp
    refine W_loop (fun m : Nat => ⟨_, [(0, .sh 2 (l.map dSig)), (7, .sh 2 (l.map dSig)), (8, .lit (.int .i64 l.length)), (9, .lit (.int .i64 k)), (4, .ptr 0 0), (26, .sh 2 ((l.take k).map dSig)), (27, .lit (.int .i64 (l.take k).length)), (28, .lit (.int .i64 m))], [.cells 71 (dSig (nth l k))]⟩) (fun m => m ≤ k ∧ ∀ i, i < m → (nth l k).name ≠ (nth l i).name) (fun m => k - m) 0 ⟨Nat.zero_le _, by omega⟩ (weakZ _) ?_
    rintro m ⟨hm, hi⟩
    repeat' (first | refine goZ ?_ | ((first | refine R_cond rfl (fun hq => ?_) fun hq => ?_ | refine R_guardT rfl rfl rfl (fun hq => ?_) fun hq => ?_ | refine R_guardF rfl rfl rfl (fun hq => ?_) fun hq => ?_ | refine D_guardT rfl rfl rfl (fun hq => ?_) fun hq => ?_ | refine D_guardF rfl rfl rfl (fun hq => ?_) fun hq => ?_) <;> (try rw [hq]) <;> first | have hp := of_decide_eq_true hq | have hp := of_decide_eq_false hq | have hp := of_decide_eq_false (not_t hq) | have hp := of_decide_eq_true (not_f hq) | have hp := hq))
    · exact ret_bool' rfl (sigs_no (k := k) (by omega) fun _ => ⟨m, by omega, by rw [hp, hnk m (by omega)]⟩)
    · refine ⟨m + 1, ⟨by omega, fun i hi' => ?_⟩, by omega, weakZ _⟩
      by_cases e : i = m
      · subst e; rw [← hnk i (by omega)]; exact hp
      · exact hi i (by omega)
    · refine ⟨k + 1, ⟨by omega, fun j hj' => ?_⟩, by omega, weakZ _⟩
      by_cases e : j = k
      · subst e; exact ⟨hok, fun i hi' => hi i (by omega)⟩
      · exact hj j (by omega)
  · exact ret_bool' rfl (sigs_no (k := k) (by omega) fun h => by simp_all [sigOk])
  · exact ret_bool' rfl (by rw [hz]; exact sigs_yes (k := k) (by omega) hj)

/-! ### labels -/
def labB (x : Lab) (n : Int) : Bool := decide (0 ≤ x.sig ∧ x.sig ≤ n - 1) || (decide (x.sig = -1) && !x.up)

theorem l2Label_f (x : Lab) (n : Int) (hn : 0 ≤ n) : Fn Tryz.prog 30 [.agg (dLab x), .lit (.int .i64 n)] (.lit (.bool (labB x n))) [] := by
  refine Fn_of Tryz.func30 rfl (by kernel_rfl) rfl rfl ?_
  intro w0 A hin
  have hn2 := given_int hin (i := 1) rfl
  repeat' (first | refine goZ ?_ | refine R_callZ rfl (l1In_f _ _ _) rfl rfl rfl ?_ | refine R_callvZ rfl (l1In_f _ _ _) rfl rfl rfl rfl ?_ | refine D_callZ rfl (l1In_f _ _ _) rfl rfl rfl ?_ | ((first | refine R_cond rfl (fun hq => ?_) fun hq => ?_ | refine R_guardT rfl rfl rfl (fun hq => ?_) fun hq => ?_ | refine R_guardF rfl rfl rfl (fun hq => ?_) fun hq => ?_ | refine D_guardT rfl rfl rfl (fun hq => ?_) fun hq => ?_ | refine D_guardF rfl rfl rfl (fun hq => ?_) fun hq => ?_) <;> (try rw [hq]) <;> first | have hp := of_decide_eq_true hq | have hp := of_decide_eq_false hq | have hp := of_decide_eq_false (not_t hq) | have hp := of_decide_eq_true (not_f hq) | have hp := hq))
  all_goals exact ret_bool' rfl (by simp_all [labB])

theorem isEdge_f (x : Lab) (n : Int) (hn : 0 ≤ n) : Fn Tryz.prog 70 [.agg (dLab x), .lit (.int .i64 n)] (.lit (.bool (labB x n))) [] := by
  refine Fn_of Tryz.func70 rfl (by kernel_rfl) rfl rfl ?_
  intro w0 A hin
  have hn2 := given_int hin (i := 1) rfl
  repeat' (first | refine goZ ?_ | refine R_callZ rfl (within_f _ _ _) rfl rfl rfl ?_ | refine R_callvZ rfl (within_f _ _ _) rfl rfl rfl rfl ?_ | refine D_callZ rfl (within_f _ _ _) rfl rfl rfl ?_ | ((first | refine R_cond rfl (fun hq => ?_) fun hq => ?_ | refine R_guardT rfl rfl rfl (fun hq => ?_) fun hq => ?_ | refine R_guardF rfl rfl rfl (fun hq => ?_) fun hq => ?_ | refine D_guardT rfl rfl rfl (fun hq => ?_) fun hq => ?_ | refine D_guardF rfl rfl rfl (fun hq => ?_) fun hq => ?_) <;> (try rw [hq]) <;> first | have hp := of_decide_eq_true hq | have hp := of_decide_eq_false hq | have hp := of_decide_eq_false (not_t hq) | have hp := of_decide_eq_true (not_f hq) | have hp := hq))
  · refine R_eqs (eq_Lab x ⟨-1, false⟩) rfl rfl rfl ?_
    repeat' (first | refine goZ ?_ | ((first | refine R_cond rfl (fun hq => ?_) fun hq => ?_ | refine R_guardT rfl rfl rfl (fun hq => ?_) fun hq => ?_ | refine R_guardF rfl rfl rfl (fun hq => ?_) fun hq => ?_ | refine D_guardT rfl rfl rfl (fun hq => ?_) fun hq => ?_ | refine D_guardF rfl rfl rfl (fun hq => ?_) fun hq => ?_) <;> (try rw [hq]) <;> first | have hp := of_decide_eq_true hq | have hp := of_decide_eq_false hq | have hp := of_decide_eq_false (not_t hq) | have hp := of_decide_eq_true (not_f hq) | have hp := hq))
    refine ret_bool' rfl ?_
    obtain ⟨a, b⟩ := x
    simp only [labB, decide_eq_false hp, Bool.false_or]
    by_cases h1 : a = -1 <;> cases b <;> simp [h1]
  · exact ret_bool' rfl (by rw [labB, hq]; rfl)

/-! ### graphs -/
def goodStg (s : Stg) : Bool := goodMark s.net s.start && (sigsB s.signals && (decide (s.labels.length = s.net.trs.length) && s.labels.all fun x => labB x s.signals.length))

theorem IsValidSTG1_f (s : Stg) (x : Lab) : Fn Tryz.prog 69 [.agg (dLab x), .sptr (dStg s)] (.lit (.bool (!labB x s.signals.length))) [] := by
  refine Fn_of Tryz.func69 rfl (by kernel_rfl) rfl rfl ?_
  intro w0 A hin
  have hz := len_dSig s.signals
  repeat' (first | refine goZ ?_ | refine R_callZ rfl (isEdge_f _ _ (by omega)) rfl rfl rfl ?_ | refine R_callvZ rfl (isEdge_f _ _ (by omega)) rfl rfl rfl rfl ?_ | refine D_callZ rfl (isEdge_f _ _ (by omega)) rfl rfl rfl ?_ | ((first | refine R_cond rfl (fun hq => ?_) fun hq => ?_ | refine R_guardT rfl rfl rfl (fun hq => ?_) fun hq => ?_ | refine R_guardF rfl rfl rfl (fun hq => ?_) fun hq => ?_ | refine D_guardT rfl rfl rfl (fun hq => ?_) fun hq => ?_ | refine D_guardF rfl rfl rfl (fun hq => ?_) fun hq => ?_) <;> (try rw [hq]) <;> first | have hp := of_decide_eq_true hq | have hp := of_decide_eq_false hq | have hp := of_decide_eq_false (not_t hq) | have hp := of_decide_eq_true (not_f hq) | have hp := hq))
  exact ret_bool' rfl (by rw [hz])

theorem not_any_not {α : Type} (l : List α) (p : α → Bool) : (!l.any fun x => !p x) = l.all p := by
  induction l with
  | nil => rfl
  | cons x l ih => rw [List.any_cons, List.all_cons, ← ih]; simp
theorem all_no {α : Type} [Inhabited α] {l : List α} {p : α → Bool} {k : Nat} (hk : k < l.length) (h : p (nth l k) = false) : l.all p = false := by
  rw [List.all_eq_false]; exact ⟨_, nth_mem hk, by rw [h]; simp⟩
theorem all_yes {α : Type} [Inhabited α] {l : List α} {p : α → Bool} {k : Nat} (hk : ¬ k < l.length) (h : ∀ j, j < k → p (nth l j) = true) : l.all p = true := by
  rw [List.all_eq_true]; exact allN (p := fun x => p x = true) fun j hj => h j (by omega)

theorem IsValidSTG_f (s : Stg) (hs : s.start.size ≤ 1048576) : Fn Tryz.prog 43 [.agg (dStg s)] (.lit (.bool (goodStg s))) [] := by
  refine Fn_of Tryz.func43 rfl (by kernel_rfl) rfl rfl ?_
  intro w0 A hin
  have hz := len_dSig s.signals
  have hy := len_dLab s.labels
  have hx := len_dTr s.net.trs
  repeat' (first | refine goZ ?_ | refine R_callZ rfl (IsValidMarking_f s.net _ hs) rfl rfl rfl ?_ | refine R_callZ rfl (areSignals_f _) rfl rfl rfl ?_ | refine R_callZ rfl (ContainsFunc_Lab_f _ _ _ _ fun x _ => IsValidSTG1_f s x) rfl rfl rfl ?_ | refine R_callvZ rfl (IsValidMarking_f s.net _ hs) rfl rfl rfl rfl ?_ | refine R_callvZ rfl (areSignals_f _) rfl rfl rfl rfl ?_ | refine R_callvZ rfl (ContainsFunc_Lab_f _ _ _ _ fun x _ => IsValidSTG1_f s x) rfl rfl rfl rfl ?_ | refine D_callZ rfl (IsValidMarking_f s.net _ hs) rfl rfl rfl ?_ | refine D_callZ rfl (areSignals_f _) rfl rfl rfl ?_ | refine D_callZ rfl (ContainsFunc_Lab_f _ _ _ _ fun x _ => IsValidSTG1_f s x) rfl rfl rfl ?_ | ((first | refine R_cond rfl (fun hq => ?_) fun hq => ?_ | refine R_guardT rfl rfl rfl (fun hq => ?_) fun hq => ?_ | refine R_guardF rfl rfl rfl (fun hq => ?_) fun hq => ?_ | refine D_guardT rfl rfl rfl (fun hq => ?_) fun hq => ?_ | refine D_guardF rfl rfl rfl (fun hq => ?_) fun hq => ?_) <;> (try rw [hq]) <;> first | have hp := of_decide_eq_true hq | have hp := of_decide_eq_false hq | have hp := of_decide_eq_false (not_t hq) | have hp := of_decide_eq_true (not_f hq) | have hp := hq))
  all_goals first
    | exact ret_bool' rfl (by rw [goodStg, ‹goodMark s.net s.start = true›, ‹sigsB s.signals = true›, decide_eq_true (show s.labels.length = s.net.trs.length by omega), not_any_not]; simp)
    | exact ret_bool' rfl (by rw [goodStg, decide_eq_false (show ¬ s.labels.length = s.net.trs.length by omega)]; simp)
    | exact ret_bool' rfl (by rw [goodStg, hq]; simp)

theorem given_agg {w : World} {A : Nat → Prop} {ds : List D} (h : Given w A ds) {i j m : Nat} {cs : List D} {xs : List (List D)} (hd : ds[i]? = some (.agg cs)) (hc : cs[j]? = some (.sh m xs)) : xs.length ≤ 9223372036854775807 := by
  obtain ⟨u, h2⟩ := given_vr h hd
  obtain ⟨us, rfl, h3⟩ := h2.agg_inv
  obtain ⟨v, _, h4⟩ := h3.get hc
  obtain ⟨bs, h5, _⟩ := h4.sh_inv
  cases h5 with
  | shnil _ _ => simp
  | sh _ h1 h2 _ _ _ => omega

theorem l2Good_f (s : Stg) (hs : s.start.size ≤ 1048576) : Fn Tryz.prog 11 [.agg (dStg s)] (.lit (.bool (goodStg s))) [] := by
  refine Fn_of Tryz.func11 rfl (by kernel_rfl) rfl rfl ?_
  intro w0 A hin
  have hl := given_agg hin (i := 0) (j := 3) rfl rfl
  have hz := len_dSig s.signals
  have hy := len_dLab s.labels
  have hx := len_dTr s.net.trs
  repeat' (first | refine goZ ?_ | ((first | refine R_cond rfl (fun hq => ?_) fun hq => ?_ | refine R_guardT rfl rfl rfl (fun hq => ?_) fun hq => ?_ | refine R_guardF rfl rfl rfl (fun hq => ?_) fun hq => ?_ | refine D_guardT rfl rfl rfl (fun hq => ?_) fun hq => ?_ | refine D_guardF rfl rfl rfl (fun hq => ?_) fun hq => ?_) <;> (try rw [hq]) <;> first | have hp := of_decide_eq_true hq | have hp := of_decide_eq_false hq | have hp := of_decide_eq_false (not_t hq) | have hp := of_decide_eq_true (not_f hq) | have hp := hq))
  refine W_loop (fun k : Nat => ⟨_, [(1, .ptr 0 0), (6, .sh 2 (s.labels.map dLab)), (7, .lit (.int .i64 s.labels.length)), (8, .lit (.int .i64 k))], [.cells 28 (dStg s)]⟩) (fun k => k ≤ s.labels.length ∧ ∀ j, j < k → labB (nth s.labels j) s.signals.length = true) (fun k => s.labels.length - k) 0 ⟨Nat.zero_le _, by omega⟩ (weakZ _) ?_
  rintro k ⟨hk, hj⟩
  repeat' (first | refine goZ ?_ | refine R_callZ rfl (l2Label_f _ _ (by omega)) rfl rfl rfl ?_ | refine R_callZ rfl (l1Good_f s.net) rfl rfl rfl ?_ | refine R_callZ rfl (l2Signals_f _) rfl rfl rfl ?_ | refine R_callZ rfl (l1Mark_f s.net _ hs) rfl rfl rfl ?_ | refine R_callvZ rfl (l2Label_f _ _ (by omega)) rfl rfl rfl rfl ?_ | refine R_callvZ rfl (l1Good_f s.net) rfl rfl rfl rfl ?_ | refine R_callvZ rfl (l2Signals_f _) rfl rfl rfl rfl ?_ | refine R_callvZ rfl (l1Mark_f s.net _ hs) rfl rfl rfl rfl ?_ | refine D_callZ rfl (l2Label_f _ _ (by omega)) rfl rfl rfl ?_ | refine D_callZ rfl (l1Good_f s.net) rfl rfl rfl ?_ | refine D_callZ rfl (l2Signals_f _) rfl rfl rfl ?_ | refine D_callZ rfl (l1Mark_f s.net _ hs) rfl rfl rfl ?_ | ((first | refine R_cond rfl (fun hq => ?_) fun hq => ?_ | refine R_guardT rfl rfl rfl (fun hq => ?_) fun hq => ?_ | refine R_guardF rfl rfl rfl (fun hq => ?_) fun hq => ?_ | refine D_guardT rfl rfl rfl (fun hq => ?_) fun hq => ?_ | refine D_guardF rfl rfl rfl (fun hq => ?_) fun hq => ?_) <;> (try rw [hq]) <;> first | have hp := of_decide_eq_true hq | have hp := of_decide_eq_false hq | have hp := of_decide_eq_false (not_t hq) | have hp := of_decide_eq_true (not_f hq) | have hp := hq))
  all_goals first
    | exact ⟨k + 1, ⟨by omega, fun j hj' => by (by_cases e : j = k; (rw [e, ← hz]; simpa using hq); exact hj j (by omega))⟩, by omega, weakZ _⟩
    | exact ret_bool' rfl (by rw [goodStg, all_no (k := k) (p := fun x => labB x s.signals.length) (by omega) (by rw [← hz]; simpa using hq)]; simp)
    | exact ret_bool' rfl (by rw [goodStg, goodMark, ‹goodNet s.net = true›, ‹sigsB s.signals = true›, decide_eq_true (show s.labels.length = s.net.trs.length by omega), all_yes (k := k) (p := fun x => labB x s.signals.length) (by omega) hj]; simp)
    | exact ret_bool' rfl (by rw [goodStg, decide_eq_false (show ¬ s.labels.length = s.net.trs.length by omega)]; simp)
    | exact ret_bool' rfl (by rw [goodStg, goodMark, hq]; simp)

def sigIx (s : Stg) (name : ByteArray) : Int := findIx (fun x : Sig => decide (x.name = name)) s.signals
def sigB (s : Stg) (name : ByteArray) : Bool := goodStg s && !decide (sigIx s name < 0)
def sigI (s : Stg) (name : ByteArray) : Int := if sigB s name then sigIx s name else 0

theorem signalOf1_f (name : ByteArray) (x : Sig) : Fn Tryz.prog 85 [.agg (dSig x), .sptr [.lit (.string name)]] (.lit (.bool (decide (x.name = name)))) [] := by
  refine Fn_of Tryz.func85 rfl (by kernel_rfl) rfl rfl ?_
  intro w0 A hin
  repeat' (first | refine goZ ?_ | ((first | refine R_cond rfl (fun hq => ?_) fun hq => ?_ | refine R_guardT rfl rfl rfl (fun hq => ?_) fun hq => ?_ | refine R_guardF rfl rfl rfl (fun hq => ?_) fun hq => ?_ | refine D_guardT rfl rfl rfl (fun hq => ?_) fun hq => ?_ | refine D_guardF rfl rfl rfl (fun hq => ?_) fun hq => ?_) <;> (try rw [hq]) <;> first | have hp := of_decide_eq_true hq | have hp := of_decide_eq_false hq | have hp := of_decide_eq_false (not_t hq) | have hp := of_decide_eq_true (not_f hq) | have hp := hq))
  exact ret_bool' rfl rfl

theorem signalOf_f (l : List Sig) (name : ByteArray) : Fn Tryz.prog 64 [.sh 2 (l.map dSig), .lit (.string name)] (.lit (.int .i64 (findIx (fun x : Sig => decide (x.name = name)) l))) [] := by
  refine Fn_of Tryz.func64 rfl (by kernel_rfl) rfl rfl ?_
  intro w0 A hin
  repeat' (first | refine goZ ?_ | refine R_callZ rfl (IndexFunc_Sig_f _ _ _ _ fun x _ => signalOf1_f name x) rfl rfl rfl ?_ | refine R_callvZ rfl (IndexFunc_Sig_f _ _ _ _ fun x _ => signalOf1_f name x) rfl rfl rfl rfl ?_ | refine D_callZ rfl (IndexFunc_Sig_f _ _ _ _ fun x _ => signalOf1_f name x) rfl rfl rfl ?_ | ((first | refine R_cond rfl (fun hq => ?_) fun hq => ?_ | refine R_guardT rfl rfl rfl (fun hq => ?_) fun hq => ?_ | refine R_guardF rfl rfl rfl (fun hq => ?_) fun hq => ?_ | refine D_guardT rfl rfl rfl (fun hq => ?_) fun hq => ?_ | refine D_guardF rfl rfl rfl (fun hq => ?_) fun hq => ?_) <;> (try rw [hq]) <;> first | have hp := of_decide_eq_true hq | have hp := of_decide_eq_false hq | have hp := of_decide_eq_false (not_t hq) | have hp := of_decide_eq_true (not_f hq) | have hp := hq))
  exact ret_int' rfl rfl

theorem l2Signal_f (l : List Sig) (name : ByteArray) : Fn Tryz.prog 53 [.sh 2 (l.map dSig), .lit (.string name)] (.lit (.int .i64 (findIx (fun x : Sig => decide (x.name = name)) l))) [] := by
  refine Fn_of Tryz.func53 rfl (by kernel_rfl) rfl rfl ?_
  intro w0 A hin
  have hl := given_len hin (i := 0) rfl
  rw [len_dSig] at hl
  repeat' (first | refine goZ ?_ | ((first | refine R_cond rfl (fun hq => ?_) fun hq => ?_ | refine R_guardT rfl rfl rfl (fun hq => ?_) fun hq => ?_ | refine R_guardF rfl rfl rfl (fun hq => ?_) fun hq => ?_ | refine D_guardT rfl rfl rfl (fun hq => ?_) fun hq => ?_ | refine D_guardF rfl rfl rfl (fun hq => ?_) fun hq => ?_) <;> (try rw [hq]) <;> first | have hp := of_decide_eq_true hq | have hp := of_decide_eq_false hq | have hp := of_decide_eq_false (not_t hq) | have hp := of_decide_eq_true (not_f hq) | have hp := hq))
  refine W_loop (fun k : Nat => ⟨_, [(1, .lit (.string name)), (7, .sh 2 (l.map dSig)), (8, .lit (.int .i64 l.length)), (9, .lit (.int .i64 k))], []⟩) (fun k => k ≤ l.length ∧ ∀ j, j < k → decide ((nth l j).name = name) = false) (fun k => l.length - k) 0 ⟨Nat.zero_le _, by omega⟩ (weakZ _) ?_
  rintro k ⟨hk, hj⟩
  repeat' (first | refine goZ ?_ | ((first | refine R_cond rfl (fun hq => ?_) fun hq => ?_ | refine R_guardT rfl rfl rfl (fun hq => ?_) fun hq => ?_ | refine R_guardF rfl rfl rfl (fun hq => ?_) fun hq => ?_ | refine D_guardT rfl rfl rfl (fun hq => ?_) fun hq => ?_ | refine D_guardF rfl rfl rfl (fun hq => ?_) fun hq => ?_) <;> (try rw [hq]) <;> first | have hp := of_decide_eq_true hq | have hp := of_decide_eq_false hq | have hp := of_decide_eq_false (not_t hq) | have hp := of_decide_eq_true (not_f hq) | have hp := hq))
  · exact ret_int' rfl (findIx_at (fun x : Sig => decide (x.name = name)) (by omega) hj hq).symm
  · exact ⟨k + 1, ⟨by omega, fun j hj' => by (by_cases e : j = k; (rw [e]; exact hq); exact hj j (by omega))⟩, by omega, weakZ _⟩
  · exact ret_int' rfl (findIx_not (fun x : Sig => decide (x.name = name)) (allN fun j h => hj j (by omega))).symm

end Go.Proofs.YtcpjhpjlcgcigaaGreatDoor
