/- Graphs as text: what the reference's and the program's functions hand back. No condition. -/
import Derived.Test.YtkegeacjalechaaDoorNam
import Derived.Test.YtkegeacjalechaaDoorGlo
set_option linter.unusedSimpArgs false
set_option linter.unusedVariables false
set_option maxHeartbeats 2000000
namespace Go.Proofs.YtkegeacjalechaaDoor
open Go.ChangeShapes Go.WideShapes Go.ChangeAt Go.RowKit

/-! ### What a good graph gives -/
theorem rising_memF {lo hi : Int} : ∀ {l : List Int} {p : Option Int}, risingFrom lo hi p l = true → ∀ x ∈ l, lo ≤ x ∧ x ≤ hi
  | [], _, _, x, h => by cases h
  | a :: l, p, h, x, hx => by
    rw [risingFrom_cons, Bool.and_eq_true, Bool.and_eq_true] at h
    rcases List.mem_cons.1 hx with rfl | hx
    · exact of_decide_eq_true h.1.1
    · exact rising_memF h.2 x hx
theorem le_szTrs {l : List Tr} {t : Tr} (h : t ∈ l) : t.pre.length ≤ szTrs l ∧ t.post.length ≤ szTrs l := by
  induction l with
  | nil => cases h
  | cons a l ih =>
    have e : szTrs (a :: l) = szTrs l + 1 + (a.pre.length + a.post.length) := by
      simp only [szTrs, List.length_cons, List.map_cons, List.sum_cons, szTr, szInts]; omega
    rcases List.mem_cons.1 h with rfl | h
    · omega
    · have := ih h; omega
structure RowF (t : Tr) : Prop where
  pl : t.pre.length ≤ 1048576
  ql : t.post.length ≤ 1048576
  p : ∀ x ∈ t.pre, 0 ≤ x ∧ x ≤ 30
  q : ∀ x ∈ t.post, 0 ≤ x ∧ x ≤ 30
theorem rowF_of {s : Stg} (hg : goodStg s = true) (hz : szStg s ≤ 1048576) {t : Tr} (ht : t ∈ s.net.trs) : RowF t := by
  have h := hg
  simp only [goodStg, goodMark, goodNet, Bool.and_eq_true, decide_eq_true_eq, Bool.not_eq_true', List.any_eq_false] at h
  have hb := h.1.1.2 t ht
  simp only [badTr, Bool.not_eq_true, Bool.or_eq_false_iff, Bool.not_eq_false'] at hb
  have h1 := rising_memF hb.1.2; have h2 := rising_memF hb.2
  have hc := le_szTrs ht
  have hs : szTrs s.net.trs ≤ szStg s := by
    have e : szNetD s.net = szTrs s.net.trs := rfl
    simp only [szStg]; omega
  exact ⟨by omega, by omega, fun x hx => by have := h1 x hx; omega, fun x hx => by have := h2 x hx; omega⟩
theorem namesF {s : Stg} (hg : goodStg s = true) : ∀ x ∈ s.signals, x.name.size ≤ 6 := by
  have h := hg
  simp only [goodStg, sigsB, Bool.and_eq_true, decide_eq_true_eq] at h
  obtain ⟨_, ⟨h2, h3⟩, _, h4⟩ := h
  intro x hx
  obtain ⟨j, hj, rfl⟩ := List.getElem_of_mem hx
  have := (h2 j hj).1
  rw [nth_get hj] at this
  simp only [sigOk, nameB, Bool.and_eq_true, decide_eq_true_eq] at this
  omega

/-! ### Rows of numbers -/
def numsB (l : List Int) : ByteArray := l.foldl (fun a x => a ++ (⟨#[32]⟩ ++ numB x.toNat)) ⟨#[]⟩
theorem numsB_snoc {l : List Int} {k : Nat} (h : k < l.length) : numsB (l.take (k + 1)) = numsB (l.take k) ++ (⟨#[32]⟩ ++ numB (nth l k).toNat) := by
  rw [take_nth h]; simp [numsB, List.foldl_append]
theorem space_size (i : Nat) : ((⟨#[32]⟩ : ByteArray) ++ numB i).size ≤ 3 := by
  have := numB_size i
  have e1 : (⟨#[32]⟩ : ByteArray).size = 1 := rfl
  rw [ByteArray.size_append]; omega
theorem numsB_size (l : List Int) : ∀ k, k ≤ l.length → (numsB (l.take k)).size ≤ 3 * k
  | 0, _ => Nat.le_refl 0
  | k + 1, h => by
    have := numsB_size l k (by omega)
    have := space_size (nth l k).toNat
    rw [numsB_snoc (by omega), ByteArray.size_append]; omega

theorem placesText_f (l : List Int) (hl : l.length ≤ 1048576) (h1 : ∀ x ∈ l, 0 ≤ x ∧ x ≤ 30) : Fn Tryd.prog 37 [.sh 1 (ints l)] (.lit (.string (numsB l))) [] := by
  refine Fn_of Tryd.func37 rfl (by kernel_rfl) rfl rfl ?_
  intro w0 A hin
  have hz := len_ints l
  repeat' (first | refine goZ ?_ | ((first | refine R_cond rfl (fun hq => ?_) fun hq => ?_ | refine R_guardT rfl rfl rfl (fun hq => ?_) fun hq => ?_ | refine R_guardF rfl rfl rfl (fun hq => ?_) fun hq => ?_ | refine D_guardT rfl rfl rfl (fun hq => ?_) fun hq => ?_ | refine D_guardF rfl rfl rfl (fun hq => ?_) fun hq => ?_) <;> (try rw [hq]) <;> first | have hp := of_decide_eq_true hq | have hp := of_decide_eq_false hq | have hp := of_decide_eq_false (not_t hq) | have hp := of_decide_eq_true (not_f hq) | have hp := hq))
  refine W_loop (fun k : Nat => ⟨_, [(3, .lit (.string (numsB (l.take k)))), (6, .sh 1 (ints l)), (7, .lit (.int .i64 l.length)), (8, .lit (.int .i64 k))], []⟩) (fun k => k ≤ l.length) (fun k => l.length - k) 0 (Nat.zero_le _) (weakZ []) ?_
  intro k hk
  have hb : k < l.length → 0 ≤ nth l k ∧ nth l k ≤ 30 := fun h => h1 _ (nth_mem h)
  have hN : k < l.length → Fn Tryd.prog 59 [.lit (.int .i64 (nth l k))] (.lit (.string (numB (nth l k).toNat))) [] := fun h => by
    have := Itoa_f (nth l k).toNat (by have := hb h; omega)
    rwa [show (((nth l k).toNat : Nat) : Int) = nth l k by have := hb h; omega] at this
  have hs := numsB_size l k hk
  have hs2 := space_size (nth l k).toNat
  have hs3 := numB_size (nth l k).toNat
  have e1 : (⟨#[32]⟩ : ByteArray).size = 1 := rfl
  repeat' (first | refine goZ ?_ | refine R_callZ rfl (hN (by omega)) rfl rfl rfl ?_ | refine R_callvZ rfl (hN (by omega)) rfl rfl rfl rfl ?_ | refine D_callZ rfl (hN (by omega)) rfl rfl rfl ?_ | ((first | refine R_cond rfl (fun hq => ?_) fun hq => ?_ | refine R_guardT rfl rfl rfl (fun hq => ?_) fun hq => ?_ | refine R_guardF rfl rfl rfl (fun hq => ?_) fun hq => ?_ | refine D_guardT rfl rfl rfl (fun hq => ?_) fun hq => ?_ | refine D_guardF rfl rfl rfl (fun hq => ?_) fun hq => ?_) <;> (try rw [hq]) <;> first | have hp := of_decide_eq_true hq | have hp := of_decide_eq_false hq | have hp := of_decide_eq_false (not_t hq) | have hp := of_decide_eq_true (not_f hq) | have hp := hq))
  · refine ⟨k + 1, by omega, by omega, ?_⟩
    rw [numsB_snoc (by omega)]
    exact weakZ _
  · exact ret_lit rfl (by rw [List.take_of_length_le (by omega)])
theorem l3Nums_f (l : List Int) (hl : l.length ≤ 1048576) (h1 : ∀ x ∈ l, 0 ≤ x ∧ x ≤ 30) : Fn Tryd.prog 65 [.sh 1 (ints l)] (.lit (.string (numsB l))) [] := by
  refine Fn_of Tryd.func65 rfl (by kernel_rfl) rfl rfl ?_
  intro w0 A hin
  have hz := len_ints l
  repeat' (first | refine goZ ?_ | ((first | refine R_cond rfl (fun hq => ?_) fun hq => ?_ | refine R_guardT rfl rfl rfl (fun hq => ?_) fun hq => ?_ | refine R_guardF rfl rfl rfl (fun hq => ?_) fun hq => ?_ | refine D_guardT rfl rfl rfl (fun hq => ?_) fun hq => ?_ | refine D_guardF rfl rfl rfl (fun hq => ?_) fun hq => ?_) <;> (try rw [hq]) <;> first | have hp := of_decide_eq_true hq | have hp := of_decide_eq_false hq | have hp := of_decide_eq_false (not_t hq) | have hp := of_decide_eq_true (not_f hq) | have hp := hq))
  refine W_loop (fun k : Nat => ⟨_, [(3, .lit (.string (numsB (l.take k)))), (6, .sh 1 (ints l)), (7, .lit (.int .i64 l.length)), (8, .lit (.int .i64 k))], []⟩) (fun k => k ≤ l.length) (fun k => l.length - k) 0 (Nat.zero_le _) (weakZ []) ?_
  intro k hk
  have hb : k < l.length → 0 ≤ nth l k ∧ nth l k ≤ 30 := fun h => h1 _ (nth_mem h)
  have hN : k < l.length → Fn Tryd.prog 49 [.lit (.int .i64 (nth l k))] (.lit (.string (numB (nth l k).toNat))) [] := fun h => by
    have := l1Num_f (nth l k).toNat (by have := hb h; omega)
    rwa [show (((nth l k).toNat : Nat) : Int) = nth l k by have := hb h; omega] at this
  have hs := numsB_size l k hk
  have hs2 := space_size (nth l k).toNat
  have hs3 := numB_size (nth l k).toNat
  have e1 : (⟨#[32]⟩ : ByteArray).size = 1 := rfl
  repeat' (first | refine goZ ?_ | refine R_callZ rfl (hN (by omega)) rfl rfl rfl ?_ | refine R_callvZ rfl (hN (by omega)) rfl rfl rfl rfl ?_ | refine D_callZ rfl (hN (by omega)) rfl rfl rfl ?_ | ((first | refine R_cond rfl (fun hq => ?_) fun hq => ?_ | refine R_guardT rfl rfl rfl (fun hq => ?_) fun hq => ?_ | refine R_guardF rfl rfl rfl (fun hq => ?_) fun hq => ?_ | refine D_guardT rfl rfl rfl (fun hq => ?_) fun hq => ?_ | refine D_guardF rfl rfl rfl (fun hq => ?_) fun hq => ?_) <;> (try rw [hq]) <;> first | have hp := of_decide_eq_true hq | have hp := of_decide_eq_false hq | have hp := of_decide_eq_false (not_t hq) | have hp := of_decide_eq_true (not_f hq) | have hp := hq))
  · refine ⟨k + 1, by omega, by omega, ?_⟩
    rw [numsB_snoc (by omega)]
    exact weakZ _
  · exact ret_lit rfl (by rw [List.take_of_length_le (by omega)])

/-! ### Lines of signals -/
def kwB (j : Nat) : ByteArray := match j with
  | 0 => ⟨#[]⟩
  | 1 => ⟨#[105, 110]⟩
  | 2 => ⟨#[111, 117, 116]⟩
  | _ => ⟨#[105, 110, 110, 101, 114]⟩
theorem kwB_size (j : Nat) : (kwB j).size ≤ 5 := by
  unfold kwB
  split <;> decide
/-- The package's table reads as its initialiser lays it. -/
def KW (w : World) : Prop := ∀ j, j < 4 → w.cell? ⟨0, j, none⟩ = some (.string (kwB j))
theorem KW.ext {w w' : World} (h : KW w) (hx : Ext w w') : KW w' := fun j hj => by rw [hx.cell (lt_of_cell (h j hj))]; exact h j hj
def lineF (kind : Int) (a : ByteArray) (x : Sig) : ByteArray := if x.kind = kind then a ++ (⟨#[32]⟩ ++ x.name) else a
def lineB (l : List Sig) (kind : Int) : ByteArray := l.foldl (lineF kind) ⟨#[]⟩
theorem lineB_yes {l : List Sig} {k : Nat} {kind : Int} (h : k < l.length) (hk : (nth l k).kind = kind) : lineB (l.take (k + 1)) kind = lineB (l.take k) kind ++ (⟨#[32]⟩ ++ (nth l k).name) := by
  rw [take_nth h]; simp [lineB, List.foldl_append, lineF, hk]
theorem lineB_no {l : List Sig} {k : Nat} {kind : Int} (h : k < l.length) (hk : ¬ (nth l k).kind = kind) : lineB (l.take (k + 1)) kind = lineB (l.take k) kind := by
  rw [take_nth h]; simp [lineB, List.foldl_append, lineF, hk]
theorem name_size {x : Sig} (h : x.name.size ≤ 6) : ((⟨#[32]⟩ : ByteArray) ++ x.name).size ≤ 7 := by
  have e1 : (⟨#[32]⟩ : ByteArray).size = 1 := rfl
  rw [ByteArray.size_append]; omega
theorem lineB_size {l : List Sig} (hn : ∀ x ∈ l, x.name.size ≤ 6) (kind : Int) : ∀ k, k ≤ l.length → (lineB (l.take k) kind).size ≤ 7 * k
  | 0, _ => Nat.le_refl 0
  | k + 1, h => by
    have := lineB_size hn kind k (by omega)
    by_cases hk : (nth l k).kind = kind
    · have := name_size (hn _ (nth_mem (show k < l.length by omega)))
      rw [lineB_yes (by omega) hk, ByteArray.size_append]; omega
    · rw [lineB_no (by omega) hk]; omega
def sglB (l : List Sig) : Nat → ByteArray
  | 0 => ⟨#[]⟩
  | n + 1 => if lineB l ((n + 1 : Nat) : Int) = ⟨#[]⟩ then sglB l n else sglB l n ++ ((kwB (n + 1) ++ lineB l ((n + 1 : Nat) : Int)) ++ ⟨#[10]⟩)
theorem nl_size {l : List Sig} (hn : ∀ x ∈ l, x.name.size ≤ 6) (j : Nat) (kind : Int) : (lineB l kind).size ≤ 7 * l.length ∧ (kwB j ++ lineB l kind).size ≤ 7 * l.length + 5 ∧ ((kwB j ++ lineB l kind) ++ ⟨#[10]⟩).size ≤ 7 * l.length + 6 := by
  have h := lineB_size hn kind l.length (Nat.le_refl _)
  rw [List.take_of_length_le (Nat.le_refl _)] at h
  have := kwB_size j
  have e1 : (⟨#[10]⟩ : ByteArray).size = 1 := rfl
  refine ⟨h, ?_, ?_⟩
  · rw [ByteArray.size_append]; omega
  · rw [ByteArray.size_append, ByteArray.size_append]; omega
theorem sglB_size {l : List Sig} (hn : ∀ x ∈ l, x.name.size ≤ 6) : ∀ n, (sglB l n).size ≤ n * (7 * l.length + 6)
  | 0 => by rw [Nat.zero_mul]; exact Nat.le_refl 0
  | n + 1 => by
    have := sglB_size hn n
    have := nl_size hn (n + 1) ((n + 1 : Nat) : Int)
    rw [sglB]
    split
    · rw [Nat.add_mul]; omega
    · rw [ByteArray.size_append, Nat.add_mul]; omega
def srtB (l : List Sig) : Bool := (List.range l.length).all fun k => decide (k = 0) || !decide ((nth l (k - 1)).kind > (nth l k).kind)
theorem srtB_no {l : List Sig} {k : Nat} (hk : k < l.length) (h0 : 0 < k) (h : (nth l (k - 1)).kind > (nth l k).kind) : srtB l = false :=
  List.all_eq_false.2 ⟨k, List.mem_range.2 hk, by simp; omega⟩
theorem srtB_at {l : List Sig} (hs : srtB l = true) {k : Nat} (hk : k < l.length) (h0 : 0 < k) : ¬ (nth l (k - 1)).kind > (nth l k).kind := by
  intro h
  rw [srtB_no hk h0 h] at hs; exact Bool.noConfusion hs
theorem srtB_yes {l : List Sig} (h : ∀ k, k < l.length → 0 < k → ¬ (nth l (k - 1)).kind > (nth l k).kind) : srtB l = true :=
  List.all_eq_true.2 fun k hk => by
    have := h k (List.mem_range.1 hk)
    by_cases h0 : k = 0
    · simp [h0]
    · simp [h0]; have := this (by omega); omega
def sglR (l : List Sig) : ByteArray := if srtB l then sglB l 3 else ⟨#[]⟩

set_option maxHeartbeats 4000000 in
theorem signalLines_g (l : List Sig) (hl : l.length ≤ 8) (hn : ∀ x ∈ l, x.name.size ≤ 6) (hk : ∀ x ∈ l, 1 ≤ x.kind ∧ x.kind ≤ 3) : FnG KW Tryd.prog 35 [.sh 2 (l.map dSig)] (.tup [.lit (.string (sglR l)), .lit (.bool (srtB l))]) [] := by
  refine FnG_of Tryd.func35 rfl (by kernel_rfl) rfl rfl ?_
  intro w0 A hX hin
  have hz := len_dSig l
  cases hs : srtB l
  · -- kinds out of order: found in the first round
    repeat' (first | refine goZ ?_ | ((first | refine R_cond rfl (fun hq => ?_) fun hq => ?_ | refine R_guardT rfl rfl rfl (fun hq => ?_) fun hq => ?_ | refine R_guardF rfl rfl rfl (fun hq => ?_) fun hq => ?_ | refine D_guardT rfl rfl rfl (fun hq => ?_) fun hq => ?_ | refine D_guardF rfl rfl rfl (fun hq => ?_) fun hq => ?_) <;> (try rw [hq]) <;> first | have hp := of_decide_eq_true hq | have hp := of_decide_eq_false hq | have hp := of_decide_eq_false (not_t hq) | have hp := of_decide_eq_true (not_f hq) | have hp := hq))
    refine W_loop (fun _ : Nat => ⟨_, [(0, .sh 2 (l.map dSig)), (4, .lit (.string ⟨#[]⟩)), (5, .lit (.int .i64 1))], []⟩) (fun _ => True) (fun k => k) 0 trivial (weakZ []) ?_
    intro _ _
    repeat' (first | refine goZ ?_ | ((first | refine R_cond rfl (fun hq => ?_) fun hq => ?_ | refine R_guardT rfl rfl rfl (fun hq => ?_) fun hq => ?_ | refine R_guardF rfl rfl rfl (fun hq => ?_) fun hq => ?_ | refine D_guardT rfl rfl rfl (fun hq => ?_) fun hq => ?_ | refine D_guardF rfl rfl rfl (fun hq => ?_) fun hq => ?_) <;> (try rw [hq]) <;> first | have hp := of_decide_eq_true hq | have hp := of_decide_eq_false hq | have hp := of_decide_eq_false (not_t hq) | have hp := of_decide_eq_true (not_f hq) | have hp := hq))
    refine W_loop (fun i : Nat => ⟨_, [(0, .sh 2 (l.map dSig)), (4, .lit (.string ⟨#[]⟩)), (5, .lit (.int .i64 1)), (6, .lit (.string (lineB (l.take i) 1))), (13, .sh 2 (l.map dSig)), (14, .lit (.int .i64 l.length)), (15, .lit (.int .i64 i))], []⟩) (fun i => i ≤ l.length ∧ ∀ j, j < i → 0 < j → ¬ (nth l (j - 1)).kind > (nth l j).kind) (fun i => l.length - i) 0 ⟨Nat.zero_le _, by omega⟩ (weakZ []) ?_
    rintro i ⟨hi, hj⟩
    have hls := lineB_size hn 1 i hi
    have hns : i < l.length → _ := fun h => name_size (hn _ (nth_mem h))
    have hns2 : i < l.length → _ := fun h => hn _ (nth_mem h)
    have e1 : (⟨#[32]⟩ : ByteArray).size = 1 := rfl
    have hpe : 0 < i → ((i : Int) - 1) = ((i - 1 : Nat) : Int) := fun h => by omega
    repeat' (first | refine goZ ?_ | ((first | refine R_cond rfl (fun hq => ?_) fun hq => ?_ | refine R_guardT rfl rfl rfl (fun hq => ?_) fun hq => ?_ | refine R_guardF rfl rfl rfl (fun hq => ?_) fun hq => ?_ | refine D_guardT rfl rfl rfl (fun hq => ?_) fun hq => ?_ | refine D_guardF rfl rfl rfl (fun hq => ?_) fun hq => ?_) <;> (try rw [hq]) <;> first | have hp := of_decide_eq_true hq | have hp := of_decide_eq_false hq | have hp := of_decide_eq_false (not_t hq) | have hp := of_decide_eq_true (not_f hq) | have hp := hq))
    all_goals first
      | exact ret_lit2 rfl (by simp [sglR, hs]) rfl
      | (exfalso
         have hc := srtB_yes (l := l) (fun k h h0 => hj k (by omega) h0)
         rw [hs] at hc; exact Bool.noConfusion hc)
      | (refine ⟨i + 1, ⟨by omega, fun j hj' h0 => ?_⟩, by omega, ?_⟩
         · rcases Nat.lt_or_ge j i with h | h
           · exact hj j h h0
           · obtain rfl : j = i := by omega
             have e : ((j : Int) - 1).toNat = j - 1 := by omega
             simp only [e] at *
             omega
         · first
             | (rw [lineB_yes (by omega) (by omega)]; exact weakZ _)
             | (rw [lineB_no (by omega) (by omega)]; exact weakZ _))
  repeat' (first | refine goZ ?_ | ((first | refine R_cond rfl (fun hq => ?_) fun hq => ?_ | refine R_guardT rfl rfl rfl (fun hq => ?_) fun hq => ?_ | refine R_guardF rfl rfl rfl (fun hq => ?_) fun hq => ?_ | refine D_guardT rfl rfl rfl (fun hq => ?_) fun hq => ?_ | refine D_guardF rfl rfl rfl (fun hq => ?_) fun hq => ?_) <;> (try rw [hq]) <;> first | have hp := of_decide_eq_true hq | have hp := of_decide_eq_false hq | have hp := of_decide_eq_false (not_t hq) | have hp := of_decide_eq_true (not_f hq) | have hp := hq))
  refine W_loop (fun k : Nat => ⟨_, [(0, .sh 2 (l.map dSig)), (4, .lit (.string (sglB l k))), (5, .lit (.int .i64 (k + 1 : Nat)))], []⟩) (fun k => k ≤ 3) (fun k => 3 - k) 0 (Nat.zero_le _) (weakZ []) ?_
  intro k hk3
  have hos := sglB_size hn k
  have hos2 : k * (7 * l.length + 6) ≤ 3 * (7 * 8 + 6) := Nat.mul_le_mul hk3 (by omega)
  repeat' (first | refine goZ ?_ | ((first | refine R_cond rfl (fun hq => ?_) fun hq => ?_ | refine R_guardT rfl rfl rfl (fun hq => ?_) fun hq => ?_ | refine R_guardF rfl rfl rfl (fun hq => ?_) fun hq => ?_ | refine D_guardT rfl rfl rfl (fun hq => ?_) fun hq => ?_ | refine D_guardF rfl rfl rfl (fun hq => ?_) fun hq => ?_) <;> (try rw [hq]) <;> first | have hp := of_decide_eq_true hq | have hp := of_decide_eq_false hq | have hp := of_decide_eq_false (not_t hq) | have hp := of_decide_eq_true (not_f hq) | have hp := hq))
  · refine W_loop (fun i : Nat => ⟨_, [(0, .sh 2 (l.map dSig)), (4, .lit (.string (sglB l k))), (5, .lit (.int .i64 (k + 1 : Nat))), (6, .lit (.string (lineB (l.take i) (k + 1 : Nat)))), (13, .sh 2 (l.map dSig)), (14, .lit (.int .i64 l.length)), (15, .lit (.int .i64 i))], []⟩) (fun i => i ≤ l.length) (fun i => l.length - i) 0 (Nat.zero_le _) (weakZ []) ?_
    intro i hi
    have hls := lineB_size hn ((k + 1 : Nat) : Int) i hi
    have hns : i < l.length → _ := fun h => name_size (hn _ (nth_mem h))
    have hns2 : i < l.length → _ := fun h => hn _ (nth_mem h)
    have e1 : (⟨#[32]⟩ : ByteArray).size = 1 := rfl
    have e2 : (⟨#[10]⟩ : ByteArray).size = 1 := rfl
    rcases Nat.lt_or_ge i l.length with hlt | hge
    · repeat' (first | refine goZ ?_ | ((first | refine R_cond rfl (fun hq => ?_) fun hq => ?_ | refine R_guardT rfl rfl rfl (fun hq => ?_) fun hq => ?_ | refine R_guardF rfl rfl rfl (fun hq => ?_) fun hq => ?_ | refine D_guardT rfl rfl rfl (fun hq => ?_) fun hq => ?_ | refine D_guardF rfl rfl rfl (fun hq => ?_) fun hq => ?_) <;> (try rw [hq]) <;> first | have hp := of_decide_eq_true hq | have hp := of_decide_eq_false hq | have hp := of_decide_eq_false (not_t hq) | have hp := of_decide_eq_true (not_f hq) | have hp := hq))
      all_goals first
        | (exfalso
           have e : ((i : Int) - 1).toNat = i - 1 := by omega
           have hc := srtB_at hs hlt (by omega)
           simp only [e] at *
           omega)
        | (refine ⟨i + 1, by omega, by omega, ?_⟩
           rw [lineB_yes (by omega) (by omega)]; exact weakZ _)
        | (refine ⟨i + 1, by omega, by omega, ?_⟩
           rw [lineB_no (by omega) (by omega)]; exact weakZ _)
        | (exfalso; omega)
    · rw [List.take_of_length_le hge]
      have hks := kwB_size (k + 1)
      have hnl := nl_size hn (k + 1) ((k + 1 : Nat) : Int)
      have hcell := hX (k + 1) (by omega)
      have hlit : litOk (.string (kwB (k + 1))) := show (kwB (k + 1)).size ≤ 9223372036854775807 by omega
      repeat' (first | refine goZ ?_ | refine R_globIdx tabOk Tryd.underlying94 rfl rfl (by omega) rfl ?_ | refine R_globLoad tabOk rfl hcell hlit rfl rfl ?_ | ((first | refine R_cond rfl (fun hq => ?_) fun hq => ?_ | refine R_guardT rfl rfl rfl (fun hq => ?_) fun hq => ?_ | refine R_guardF rfl rfl rfl (fun hq => ?_) fun hq => ?_ | refine D_guardT rfl rfl rfl (fun hq => ?_) fun hq => ?_ | refine D_guardF rfl rfl rfl (fun hq => ?_) fun hq => ?_) <;> (try rw [hq]) <;> first | have hp := of_decide_eq_true hq | have hp := of_decide_eq_false hq | have hp := of_decide_eq_false (not_t hq) | have hp := of_decide_eq_true (not_f hq) | have hp := hq))
      all_goals first
        | (exfalso; omega)
        | (refine ⟨k + 1, by omega, by omega, ?_⟩
           rcases Classical.em (lineB l ((k + 1 : Nat) : Int) = ⟨#[]⟩) with he | he
           · first
               | exact absurd he hp
               | (rw [sglB, if_pos he]; exact weakZ _)
           · first
               | exact absurd hp he
               | (rw [sglB, if_neg he]; exact weakZ _))
  · obtain rfl : k = 3 := by omega
    exact ret_lit2 rfl (by simp [sglR, hs]) rfl

theorem l3Words_f : Fn Tryd.prog 80 [] (.own 0) [.arr 9 1 (strs [kwB 0, kwB 1, kwB 2, kwB 3]) true] := by
  refine Fn_of Tryd.func80 rfl (by kernel_rfl) rfl rfl ?_
  intro w0 A hin
  repeat' (first | refine goZ ?_ | ((first | refine R_cond rfl (fun hq => ?_) fun hq => ?_ | refine R_guardT rfl rfl rfl (fun hq => ?_) fun hq => ?_ | refine R_guardF rfl rfl rfl (fun hq => ?_) fun hq => ?_ | refine D_guardT rfl rfl rfl (fun hq => ?_) fun hq => ?_ | refine D_guardF rfl rfl rfl (fun hq => ?_) fun hq => ?_) <;> (try rw [hq]) <;> first | have hp := of_decide_eq_true hq | have hp := of_decide_eq_false hq | have hp := of_decide_eq_false (not_t hq) | have hp := of_decide_eq_true (not_f hq) | have hp := hq))
  exact ret_own rfl rfl rfl

set_option maxHeartbeats 4000000 in
theorem l3Signals_f (s : Stg) (hl : s.signals.length ≤ 8) (hn : ∀ x ∈ s.signals, x.name.size ≤ 6) : Fn Tryd.prog 64 [.agg (dStg s)] (.lit (.string (sglB s.signals 3))) [] := by
  refine Fn_of Tryd.func64 rfl (by kernel_rfl) rfl rfl ?_
  intro w0 A hin
  have hz := len_dSig s.signals
  have hlw : (strs [kwB 0, kwB 1, kwB 2, kwB 3]).length = 4 := rfl
  repeat' (first | refine goZ ?_ | ((first | refine R_cond rfl (fun hq => ?_) fun hq => ?_ | refine R_guardT rfl rfl rfl (fun hq => ?_) fun hq => ?_ | refine R_guardF rfl rfl rfl (fun hq => ?_) fun hq => ?_ | refine D_guardT rfl rfl rfl (fun hq => ?_) fun hq => ?_ | refine D_guardF rfl rfl rfl (fun hq => ?_) fun hq => ?_) <;> (try rw [hq]) <;> first | have hp := of_decide_eq_true hq | have hp := of_decide_eq_false hq | have hp := of_decide_eq_false (not_t hq) | have hp := of_decide_eq_true (not_f hq) | have hp := hq))
  refine W_loop (fun k : Nat => ⟨_, [(1, .ptr 0 0), (3, .lit (.string (sglB s.signals k))), (4, .lit (.int .i64 (k + 1 : Nat)))], [.cells 38 (dStg s)]⟩) (fun k => k ≤ 3) (fun k => 3 - k) 0 (Nat.zero_le _) (weakZ []) ?_
  intro k hk3
  have hos := sglB_size hn k
  have hos2 : k * (7 * s.signals.length + 6) ≤ 3 * (7 * 8 + 6) := Nat.mul_le_mul hk3 (by omega)
  rcases Nat.lt_or_ge k 3 with hk2 | hk2
  · have hrow : RowAt (strs [kwB 0, kwB 1, kwB 2, kwB 3]) ((k + 1 : Nat) : Int) [.lit (.string (kwB (k + 1)))] := by
      have : k = 0 ∨ k = 1 ∨ k = 2 := by omega
      rcases this with rfl | rfl | rfl <;> exact ⟨by omega, rfl⟩
    repeat' (first | refine goZ ?_ | ((first | refine R_cond rfl (fun hq => ?_) fun hq => ?_ | refine R_guardT rfl rfl rfl (fun hq => ?_) fun hq => ?_ | refine R_guardF rfl rfl rfl (fun hq => ?_) fun hq => ?_ | refine D_guardT rfl rfl rfl (fun hq => ?_) fun hq => ?_ | refine D_guardF rfl rfl rfl (fun hq => ?_) fun hq => ?_) <;> (try rw [hq]) <;> first | have hp := of_decide_eq_true hq | have hp := of_decide_eq_false hq | have hp := of_decide_eq_false (not_t hq) | have hp := of_decide_eq_true (not_f hq) | have hp := hq))
    rotate_left
    · exfalso; omega
    refine W_loop (fun i : Nat => ⟨_, [(1, .ptr 0 0), (3, .lit (.string (sglB s.signals k))), (4, .lit (.int .i64 (k + 1 : Nat))), (5, .lit (.string (lineB (s.signals.take i) (k + 1 : Nat)))), (13, .sh 2 (s.signals.map dSig)), (14, .lit (.int .i64 s.signals.length)), (15, .lit (.int .i64 i))], [.cells 38 (dStg s)]⟩) (fun i => i ≤ s.signals.length) (fun i => s.signals.length - i) 0 (Nat.zero_le _) (weakZ []) ?_
    intro i hi
    have hls := lineB_size hn ((k + 1 : Nat) : Int) i hi
    have hns : i < s.signals.length → _ := fun h => name_size (hn _ (nth_mem h))
    have hns2 : i < s.signals.length → _ := fun h => hn _ (nth_mem h)
    have e1 : (⟨#[32]⟩ : ByteArray).size = 1 := rfl
    have e2 : (⟨#[10]⟩ : ByteArray).size = 1 := rfl
    rcases Nat.lt_or_ge i s.signals.length with hlt | hge
    · repeat' (first | refine goZ ?_ | ((first | refine R_cond rfl (fun hq => ?_) fun hq => ?_ | refine R_guardT rfl rfl rfl (fun hq => ?_) fun hq => ?_ | refine R_guardF rfl rfl rfl (fun hq => ?_) fun hq => ?_ | refine D_guardT rfl rfl rfl (fun hq => ?_) fun hq => ?_ | refine D_guardF rfl rfl rfl (fun hq => ?_) fun hq => ?_) <;> (try rw [hq]) <;> first | have hp := of_decide_eq_true hq | have hp := of_decide_eq_false hq | have hp := of_decide_eq_false (not_t hq) | have hp := of_decide_eq_true (not_f hq) | have hp := hq))
      all_goals first
        | (refine ⟨i + 1, by omega, by omega, ?_⟩
           rw [lineB_yes (by omega) (by omega)]; exact weakZ _)
        | (refine ⟨i + 1, by omega, by omega, ?_⟩
           rw [lineB_no (by omega) (by omega)]; exact weakZ _)
        | (exfalso; omega)
    · rw [List.take_of_length_le hge]
      have hks := kwB_size (k + 1)
      have hnl := nl_size hn (k + 1) ((k + 1 : Nat) : Int)
      repeat' (first | refine goZ ?_ | refine R_callZ rfl (l3Words_f) rfl rfl rfl ?_ | refine R_callvZ rfl (l3Words_f) rfl rfl rfl rfl ?_ | refine R_eload tabOk rfl rfl rfl (r := [.lit (.string (kwB (k + 1)))]) hrow rfl rfl ?_ | refine D_callZ rfl (l3Words_f) rfl rfl rfl ?_ | ((first | refine R_cond rfl (fun hq => ?_) fun hq => ?_ | refine R_guardT rfl rfl rfl (fun hq => ?_) fun hq => ?_ | refine R_guardF rfl rfl rfl (fun hq => ?_) fun hq => ?_ | refine D_guardT rfl rfl rfl (fun hq => ?_) fun hq => ?_ | refine D_guardF rfl rfl rfl (fun hq => ?_) fun hq => ?_) <;> (try rw [hq]) <;> first | have hp := of_decide_eq_true hq | have hp := of_decide_eq_false hq | have hp := of_decide_eq_false (not_t hq) | have hp := of_decide_eq_true (not_f hq) | have hp := hq))
      all_goals first
        | (exfalso; omega)
        | (refine ⟨k + 1, by omega, by omega, ?_⟩
           rcases Classical.em (lineB s.signals ((k + 1 : Nat) : Int) = ⟨#[]⟩) with he | he
           · first
               | exact absurd he hp
               | (rw [sglB, if_pos he]; exact weakZ _)
           · first
               | exact absurd hp he
               | (rw [sglB, if_neg he]; exact weakZ _))
  · obtain rfl : k = 3 := by omega
    repeat' (first | refine goZ ?_ | ((first | refine R_cond rfl (fun hq => ?_) fun hq => ?_ | refine R_guardT rfl rfl rfl (fun hq => ?_) fun hq => ?_ | refine R_guardF rfl rfl rfl (fun hq => ?_) fun hq => ?_ | refine D_guardT rfl rfl rfl (fun hq => ?_) fun hq => ?_ | refine D_guardF rfl rfl rfl (fun hq => ?_) fun hq => ?_) <;> (try rw [hq]) <;> first | have hp := of_decide_eq_true hq | have hp := of_decide_eq_false hq | have hp := of_decide_eq_false (not_t hq) | have hp := of_decide_eq_true (not_f hq) | have hp := hq))
    all_goals first
      | (exfalso; omega)
      | exact ret_lit rfl rfl
theorem l3Kinds_f (s : Stg) (hl : s.signals.length ≤ 8) : Fn Tryd.prog 33 [.agg (dStg s)] (.lit (.bool (srtB s.signals))) [] := by
  refine Fn_of Tryd.func33 rfl (by kernel_rfl) rfl rfl ?_
  intro w0 A hin
  have hz := len_dSig s.signals
  repeat' (first | refine goZ ?_ | ((first | refine R_cond rfl (fun hq => ?_) fun hq => ?_ | refine R_guardT rfl rfl rfl (fun hq => ?_) fun hq => ?_ | refine R_guardF rfl rfl rfl (fun hq => ?_) fun hq => ?_ | refine D_guardT rfl rfl rfl (fun hq => ?_) fun hq => ?_ | refine D_guardF rfl rfl rfl (fun hq => ?_) fun hq => ?_) <;> (try rw [hq]) <;> first | have hp := of_decide_eq_true hq | have hp := of_decide_eq_false hq | have hp := of_decide_eq_false (not_t hq) | have hp := of_decide_eq_true (not_f hq) | have hp := hq))
  refine W_loop (fun i : Nat => ⟨_, [(1, .ptr 0 0), (6, .sh 2 (s.signals.map dSig)), (7, .lit (.int .i64 s.signals.length)), (8, .lit (.int .i64 i))], [.cells 38 (dStg s)]⟩) (fun i => i ≤ s.signals.length ∧ ∀ j, j < i → 0 < j → ¬ (nth s.signals (j - 1)).kind > (nth s.signals j).kind) (fun i => s.signals.length - i) 0 ⟨Nat.zero_le _, by omega⟩ (weakZ []) ?_
  rintro i ⟨hi, hj⟩
  repeat' (first | refine goZ ?_ | ((first | refine R_cond rfl (fun hq => ?_) fun hq => ?_ | refine R_guardT rfl rfl rfl (fun hq => ?_) fun hq => ?_ | refine R_guardF rfl rfl rfl (fun hq => ?_) fun hq => ?_ | refine D_guardT rfl rfl rfl (fun hq => ?_) fun hq => ?_ | refine D_guardF rfl rfl rfl (fun hq => ?_) fun hq => ?_) <;> (try rw [hq]) <;> first | have hp := of_decide_eq_true hq | have hp := of_decide_eq_false hq | have hp := of_decide_eq_false (not_t hq) | have hp := of_decide_eq_true (not_f hq) | have hp := hq))
  all_goals first
    | (have e : ((i : Int) - 1).toNat = i - 1 := by omega
       rw [e] at hp
       exact ret_bool' rfl (srtB_no (by omega) (by omega) hp).symm)
    | exact ret_bool' rfl (srtB_yes fun k h h0 => hj k (by omega) h0).symm
    | (refine ⟨i + 1, ⟨by omega, fun j hj' h0 => ?_⟩, by omega, weakZ _⟩
       rcases Nat.lt_or_ge j i with h | h
       · exact hj j h h0
       · obtain rfl : j = i := by omega
         have e : ((j : Int) - 1).toNat = j - 1 := by omega
         simp only [e] at *
         omega)
end Go.Proofs.YtkegeacjalechaaDoor
