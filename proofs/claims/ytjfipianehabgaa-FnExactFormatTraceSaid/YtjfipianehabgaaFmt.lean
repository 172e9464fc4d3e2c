/- Traces as text: what the reference's and the program's functions hand back. No condition. -/
import Derived.Test.YtjfipianehabgaaJoin
import Derived.Test.YtjfipianehabgaaSgc
import Derived.Test.YtjfipianehabgaaDrw
import Derived.Test.YtjfipianehabgaaExc
set_option linter.unusedSimpArgs false
set_option linter.unusedVariables false
set_option maxHeartbeats 2000000
namespace Go.Proofs.Ytjfipianehabgaa
open Go.ChangeShapes Go.WideShapes Go.ChangeAt Go.RowKit

theorem eq_ArcD (x y : ArcD) : EqFn Try.prog 134 [.int .i64 x.src, .int .i64 x.sig, .bool x.up, .int .i64 x.dst] [.int .i64 y.src, .int .i64 y.sig, .bool y.up, .int .i64 y.dst] (decide (x = y)) := by
  refine ⟨by kernel_rfl, fun w => ?_⟩
  have u3 := Try.underlying3
  have a3 := Try.isAgg3
  have z3 := Try.sizeOf3
  have u4 := Try.underlying4
  have a4 := Try.isAgg4
  have z4 := Try.sizeOf4
  rw [show (10000 : Nat) = 9999 + 1 from rfl, run_equalIn_agg w 9999 134 _ _ (by kernel_rfl) (by kernel_rfl)]
  simp only [Program.fieldsOf, Try.underlying134]
  go_simp
  obtain ⟨a, b, c, d⟩ := x
  obtain ⟨e, f, g, h⟩ := y
  by_cases h1 : a = e <;> by_cases h2 : b = f <;> by_cases h3 : c = g <;> by_cases h4 : d = h <;> simp [h1, h2, h3, h4]

theorem Index_ArcD_f (l : List ArcD) (x : ArcD) : Fn Try.prog 196 [.sh 4 (l.map dArcD), .agg (dArcD x)] (.lit (.int .i64 (findIx (fun y => decide (x = y)) l))) [] := by
  refine Fn_of Try.func196 rfl (by kernel_rfl) rfl rfl ?_
  intro w0 A hin
  have hl := given_len hin (i := 0) rfl
  rw [len_dArcD] at hl
  repeat' (first | refine goZ ?_ | ((first | refine R_cond rfl (fun hq => ?_) fun hq => ?_ | refine R_guardT rfl rfl rfl (fun hq => ?_) fun hq => ?_ | refine R_guardF rfl rfl rfl (fun hq => ?_) fun hq => ?_ | refine D_guardT rfl rfl rfl (fun hq => ?_) fun hq => ?_ | refine D_guardF rfl rfl rfl (fun hq => ?_) fun hq => ?_) <;> (try rw [hq]) <;> first | have hp := of_decide_eq_true hq | have hp := of_decide_eq_false hq | have hp := of_decide_eq_false (not_t hq) | have hp := of_decide_eq_true (not_f hq) | have hp := hq))
  refine W_loop (fun k : Nat => ⟨_, [(0, .sh 4 (l.map dArcD)), (3, .ptr 0 0), (7, .lit (.int .i64 l.length)), (8, .lit (.int .i64 k))], [.cells 134 (dArcD x)]⟩) (fun k => k ≤ l.length ∧ ∀ j, j < k → decide (x = nth l j) = false) (fun k => l.length - k) 0 ⟨Nat.zero_le _, by omega⟩ (by rw [show (l.length : Int) = ((l.map dArcD).length : Int) by simp]; exact weakZ []) ?_
  rintro k ⟨hk, hj⟩
  have hE := eq_ArcD x (nth l k)
  repeat' (first | refine W_drawAt 5 mixed tabOk rfl rfl rfl ?_ | refine go1 ?_ | refine R_eqs hE rfl rfl rfl ?_ | ((first | refine R_cond rfl (fun hq => ?_) fun hq => ?_ | refine R_guardT rfl rfl rfl (fun hq => ?_) fun hq => ?_ | refine R_guardF rfl rfl rfl (fun hq => ?_) fun hq => ?_ | refine D_guardT rfl rfl rfl (fun hq => ?_) fun hq => ?_ | refine D_guardF rfl rfl rfl (fun hq => ?_) fun hq => ?_) <;> (try rw [hq]) <;> first | have hp := of_decide_eq_true hq | have hp := of_decide_eq_false hq | have hp := of_decide_eq_false (not_t hq) | have hp := of_decide_eq_true (not_f hq) | have hp := hq))
  · exact ret_int' rfl (findIx_at (fun y => decide (x = y)) (by omega) hj hq).symm
  · exact ⟨k + 1, ⟨by omega, fun j hj' => by by_cases e : j = k; (rw [e]; exact hq); exact hj j (by omega)⟩, by omega, weakZ _⟩
  · exact ret_int' rfl (findIx_not (fun y => decide (x = y)) (allN fun j h => hj j (by omega))).symm
theorem Contains_ArcD_f (l : List ArcD) (x : ArcD) : Fn Try.prog 118 [.sh 4 (l.map dArcD), .agg (dArcD x)] (.lit (.bool (decide (x ∈ l)))) [] := by
  refine Fn_of Try.func118 rfl (by kernel_rfl) rfl rfl ?_
  intro w0 A hin
  repeat' (first | refine goZ ?_ | refine R_callZ rfl (Index_ArcD_f _ _) rfl rfl rfl ?_ | refine R_callvZ rfl (Index_ArcD_f _ _) rfl rfl rfl rfl ?_ | refine D_callZ rfl (Index_ArcD_f _ _) rfl rfl rfl ?_ | ((first | refine R_cond rfl (fun hq => ?_) fun hq => ?_ | refine R_guardT rfl rfl rfl (fun hq => ?_) fun hq => ?_ | refine R_guardF rfl rfl rfl (fun hq => ?_) fun hq => ?_ | refine D_guardT rfl rfl rfl (fun hq => ?_) fun hq => ?_ | refine D_guardF rfl rfl rfl (fun hq => ?_) fun hq => ?_) <;> (try rw [hq]) <;> first | have hp := of_decide_eq_true hq | have hp := of_decide_eq_false hq | have hp := of_decide_eq_false (not_t hq) | have hp := of_decide_eq_true (not_f hq) | have hp := hq))
  exact ret_bool' rfl (by rw [findIx_any, Bool.eq_iff_iff]; simp)

/-! ### Words -/
def wordB (ss : List Sig) (sig : Int) (up : Bool) : ByteArray := if sig < 0 then ⟨#[126]⟩ else if up then (nth ss sig.toNat).name ++ ⟨#[43]⟩ else (nth ss sig.toNat).name ++ ⟨#[45]⟩
structure WordOk (ss : List Sig) (sig : Int) : Prop where
  lt : sig < ss.length
  nm : ∀ s ∈ ss, s.name.size ≤ 6
theorem wordB_size {ss : List Sig} {sig : Int} (h : WordOk ss sig) (up : Bool) : (wordB ss sig up).size ≤ 7 := by
  unfold wordB
  split
  · decide
  · have := h.nm _ (nth_mem (show sig.toNat < ss.length by have := h.lt; omega))
    have e1 : (⟨#[43]⟩ : ByteArray).size = 1 := rfl
    have e2 : (⟨#[45]⟩ : ByteArray).size = 1 := rfl
    split <;> rw [ByteArray.size_append] <;> omega
theorem edgeText_f (ss : List Sig) (l : Lab) (h : WordOk ss l.sig) : Fn Try.prog 119 [.sh 2 (ss.map dSig), .agg (dLab l)] (.lit (.string (wordB ss l.sig l.up))) [] := by
  refine Fn_of Try.func119 rfl (by kernel_rfl) rfl rfl ?_
  intro w0 A hin
  have hz := len_dSig ss
  have hlt := h.lt
  have hs : 0 ≤ l.sig → (nth ss l.sig.toNat).name.size ≤ 6 := fun h0 => h.nm _ (nth_mem (by omega))
  have e1 : (⟨#[43]⟩ : ByteArray).size = 1 := rfl
  have e2 : (⟨#[45]⟩ : ByteArray).size = 1 := rfl
  cases hu : l.up
  · repeat' (first | refine goZ ?_ | ((first | refine R_cond rfl (fun hq => ?_) fun hq => ?_ | refine R_guardT rfl rfl rfl (fun hq => ?_) fun hq => ?_ | refine R_guardF rfl rfl rfl (fun hq => ?_) fun hq => ?_ | refine D_guardT rfl rfl rfl (fun hq => ?_) fun hq => ?_ | refine D_guardF rfl rfl rfl (fun hq => ?_) fun hq => ?_) <;> (try rw [hq]) <;> first | have hp := of_decide_eq_true hq | have hp := of_decide_eq_false hq | have hp := of_decide_eq_false (not_t hq) | have hp := of_decide_eq_true (not_f hq) | have hp := hq))
    · exact ret_lit rfl (by rw [wordB, if_pos hp])
    · exact ret_lit rfl (by rw [wordB, if_neg hp, if_neg (by simp)])
  · repeat' (first | refine goZ ?_ | ((first | refine R_cond rfl (fun hq => ?_) fun hq => ?_ | refine R_guardT rfl rfl rfl (fun hq => ?_) fun hq => ?_ | refine R_guardF rfl rfl rfl (fun hq => ?_) fun hq => ?_ | refine D_guardT rfl rfl rfl (fun hq => ?_) fun hq => ?_ | refine D_guardF rfl rfl rfl (fun hq => ?_) fun hq => ?_) <;> (try rw [hq]) <;> first | have hp := of_decide_eq_true hq | have hp := of_decide_eq_false hq | have hp := of_decide_eq_false (not_t hq) | have hp := of_decide_eq_true (not_f hq) | have hp := hq))
    · exact ret_lit rfl (by rw [wordB, if_pos hp])
    · exact ret_lit rfl (by rw [wordB, if_neg hp, if_pos rfl])
theorem l6Word_f (c : SGraph) (a : ArcD) (h : WordOk c.signals a.sig) : Fn Try.prog 195 [.agg (dSGraph c), .agg (dArcD a)] (.lit (.string (wordB c.signals a.sig a.up))) [] := by
  refine Fn_of Try.func195 rfl (by kernel_rfl) rfl rfl ?_
  intro w0 A hin
  have hz := len_dSig c.signals
  have hlt := h.lt
  have hs : 0 ≤ a.sig → (nth c.signals a.sig.toNat).name.size ≤ 6 := fun h0 => h.nm _ (nth_mem (by omega))
  have e1 : (⟨#[43]⟩ : ByteArray).size = 1 := rfl
  have e2 : (⟨#[45]⟩ : ByteArray).size = 1 := rfl
  cases hu : a.up
  · repeat' (first | refine goZ ?_ | ((first | refine R_cond rfl (fun hq => ?_) fun hq => ?_ | refine R_guardT rfl rfl rfl (fun hq => ?_) fun hq => ?_ | refine R_guardF rfl rfl rfl (fun hq => ?_) fun hq => ?_ | refine D_guardT rfl rfl rfl (fun hq => ?_) fun hq => ?_ | refine D_guardF rfl rfl rfl (fun hq => ?_) fun hq => ?_) <;> (try rw [hq]) <;> first | have hp := of_decide_eq_true hq | have hp := of_decide_eq_false hq | have hp := of_decide_eq_false (not_t hq) | have hp := of_decide_eq_true (not_f hq) | have hp := hq))
    · exact ret_lit rfl (by rw [wordB, if_pos hp])
    · exact ret_lit rfl (by rw [wordB, if_neg hp, if_neg (by simp)])
  · repeat' (first | refine goZ ?_ | ((first | refine R_cond rfl (fun hq => ?_) fun hq => ?_ | refine R_guardT rfl rfl rfl (fun hq => ?_) fun hq => ?_ | refine R_guardF rfl rfl rfl (fun hq => ?_) fun hq => ?_ | refine D_guardT rfl rfl rfl (fun hq => ?_) fun hq => ?_ | refine D_guardF rfl rfl rfl (fun hq => ?_) fun hq => ?_) <;> (try rw [hq]) <;> first | have hp := of_decide_eq_true hq | have hp := of_decide_eq_false hq | have hp := of_decide_eq_false (not_t hq) | have hp := of_decide_eq_true (not_f hq) | have hp := hq))
    · exact ret_lit rfl (by rw [wordB, if_pos hp])
    · exact ret_lit rfl (by rw [wordB, if_neg hp, if_pos rfl])
theorem words_ok {c : SGraph} (h : goodSG c = true) : ∀ a ∈ c.arcs, WordOk c.signals a.sig := by
  intro a ha
  simp only [goodSG, sgB, sgA, sigsB, Bool.and_eq_true, decide_eq_true_eq] at h
  have h1 := List.all_eq_true.1 h.1.2.2 a ha
  simp only [arcB, labB, Bool.and_eq_true, Bool.or_eq_true, decide_eq_true_eq] at h1
  refine ⟨by omega, fun s hs => ?_⟩
  obtain ⟨j, hj, rfl⟩ := List.getElem_of_mem hs
  have h2 := (h.1.1.1.1 j hj).1
  rw [nth_get hj] at h2
  simp only [sigOk, nameB, Bool.and_eq_true, decide_eq_true_eq] at h2
  omega

/-! ### Traces -/
def wordA (c : SGraph) (a : ArcD) : ByteArray := wordB c.signals a.sig a.up
def wordsL (c : SGraph) (l : List ArcD) : List ByteArray := l.map (wordA c)
theorem words_len {c : SGraph} {l : List ArcD} (hg : goodSG c = true) (h : ∀ a ∈ l, a ∈ c.arcs) : ∀ w ∈ wordsL c l, w.size ≤ 7 := by
  intro w hw
  obtain ⟨a, ha, rfl⟩ := List.mem_map.1 hw
  exact wordB_size (words_ok hg a (h a ha)) a.up
theorem l6Trace_f (c : SGraph) (l : List ArcD) (hg : goodSG c = true) (hl : l.length ≤ 100000) (h : ∀ a ∈ l, a ∈ c.arcs) : Fn Try.prog 116 [.agg (dSGraph c), .sh 4 (l.map dArcD)] (.lit (.string (joinB (wordsL c l)))) [] := by
  refine Fn_of Try.func116 rfl (by kernel_rfl) rfl rfl ?_
  intro w0 A hin
  have hz := len_dArcD l
  have hws := words_len hg h
  repeat' (first | refine goZ ?_ | ((first | refine R_cond rfl (fun hq => ?_) fun hq => ?_ | refine R_guardT rfl rfl rfl (fun hq => ?_) fun hq => ?_ | refine R_guardF rfl rfl rfl (fun hq => ?_) fun hq => ?_ | refine D_guardT rfl rfl rfl (fun hq => ?_) fun hq => ?_ | refine D_guardF rfl rfl rfl (fun hq => ?_) fun hq => ?_) <;> (try rw [hq]) <;> first | have hp := of_decide_eq_true hq | have hp := of_decide_eq_false hq | have hp := of_decide_eq_false (not_t hq) | have hp := of_decide_eq_true (not_f hq) | have hp := hq))
  refine W_loop (fun k : Nat => ⟨_, [(2, .ptr 0 0), (5, .lit (.string (joinB (wordsL c (l.take k))))), (8, .sh 4 (l.map dArcD)), (9, .lit (.int .i64 l.length)), (10, .lit (.int .i64 k))], [.cells 67 (dSGraph c)]⟩) (fun k => k ≤ l.length) (fun k => l.length - k) 0 (Nat.zero_le _) (by rw [← hz]; exact weakZ []) ?_
  intro k hk
  have hO : k < l.length → WordOk c.signals (nth l k).sig := fun hk => words_ok hg _ (h _ (nth_mem hk))
  have hwz : k < l.length → (wordA c (nth l k)).size ≤ 7 := fun hk => wordB_size (words_ok hg _ (h _ (nth_mem hk))) _
  have hjz : (joinB (wordsL c (l.take k))).size ≤ 8 * k := by
    have := joinB_size (wordsL c (l.take k)) 7 (words_len hg fun a ha => h a (List.mem_of_mem_take ha))
    simp only [wordsL, List.length_map, List.length_take] at this
    have e : min k l.length = k := by omega
    rw [e] at this; exact this
  have e1 : (⟨#[32]⟩ : ByteArray).size = 1 := rfl
  have e3 : (joinB (wordsL c (l.take k)) ++ ⟨#[32]⟩).size = (joinB (wordsL c (l.take k))).size + 1 := by rw [ByteArray.size_append]; rfl
  have hnx : k < l.length → wordsL c (l.take (k + 1)) = wordsL c (l.take k) ++ [wordB c.signals (nth l k).sig (nth l k).up] := fun hk => by
    rw [take_nth hk]; simp [wordsL, wordA]
  have hnx2 : k < l.length → (wordB c.signals (nth l k).sig (nth l k).up).size ≤ 7 := hwz
  repeat' (first | refine goZ ?_ | refine R_callZ rfl (l6Word_f c (nth l k) (hO (by omega))) rfl rfl rfl ?_ | refine R_callvZ rfl (l6Word_f c (nth l k) (hO (by omega))) rfl rfl rfl rfl ?_ | refine D_callZ rfl (l6Word_f c (nth l k) (hO (by omega))) rfl rfl rfl ?_ | ((first | refine R_cond rfl (fun hq => ?_) fun hq => ?_ | refine R_guardT rfl rfl rfl (fun hq => ?_) fun hq => ?_ | refine R_guardF rfl rfl rfl (fun hq => ?_) fun hq => ?_ | refine D_guardT rfl rfl rfl (fun hq => ?_) fun hq => ?_ | refine D_guardF rfl rfl rfl (fun hq => ?_) fun hq => ?_) <;> (try rw [hq]) <;> first | have hp := of_decide_eq_true hq | have hp := of_decide_eq_false hq | have hp := of_decide_eq_false (not_t hq) | have hp := of_decide_eq_true (not_f hq) | have hp := hq))
  · refine ⟨k + 1, by omega, by omega, ?_⟩
    rw [hnx (by omega), joinB_snoc, if_neg (fun h0 => by have h1 := congrArg List.length h0; simp only [wordsL, List.length_map, List.length_take, List.length_nil] at h1; omega)]
    exact weakZ _
  · refine ⟨k + 1, by omega, by omega, ?_⟩
    have ek : k = 0 := by omega
    subst ek
    rw [hnx (by omega), joinB_snoc, if_pos (by simp [wordsL])]
    have e0 : ∀ w : ByteArray, joinB (wordsL c (l.take 0)) ++ w = w := fun w => by
      rw [List.take_zero, show wordsL c [] = [] from rfl, joinB_nil]; exact ByteArray.empty_append
    rw [e0]
    exact weakZ _
  · exact ret_lit rfl (by rw [List.take_of_length_le (by omega)])

def atK (l : List ArcD) (k : Nat) : Int := if k = 0 then 0 else (nth l (k - 1)).dst
def okP (c : SGraph) (l : List ArcD) (k : Nat) : Bool := decide ((nth l k).src = atK l k) && decide (nth l k ∈ c.arcs)
def okA (c : SGraph) (l : List ArcD) : Bool := (List.range l.length).all (okP c l)
theorem okA_no {c : SGraph} {l : List ArcD} {k : Nat} (hk : k < l.length) (h : okP c l k = false) : okA c l = false := List.all_eq_false.2 ⟨k, List.mem_range.2 hk, by rw [h]; simp⟩
theorem okA_yes {c : SGraph} {l : List ArcD} {k : Nat} (hk : ¬ k < l.length) (h : ∀ j, j < k → okP c l j = true) : okA c l = true := List.all_eq_true.2 fun j hj => h j (by have := List.mem_range.1 hj; omega)
theorem okA_mem {c : SGraph} {l : List ArcD} (h : okA c l = true) : ∀ a ∈ l, a ∈ c.arcs := by
  intro a ha
  obtain ⟨j, hj, rfl⟩ := List.getElem_of_mem ha
  have := List.all_eq_true.1 h j (List.mem_range.2 hj)
  simp only [okP, Bool.and_eq_true, decide_eq_true_eq] at this
  rw [nth_get hj] at this; exact this.2
noncomputable def ftB (c : SGraph) (l : List ArcD) : Bool := goodSG c && (decide (l.length ≤ 4000) && okA c l)
noncomputable def ftS (c : SGraph) (l : List ArcD) : ByteArray := if ftB c l then joinB (wordsL c l) else ⟨#[]⟩
theorem ftS_no {c : SGraph} {l : List ArcD} (h : ftB c l = false) : ftS c l = ⟨#[]⟩ := by simp [ftS, h]

set_option maxHeartbeats 1600000 in
theorem specFormatTrace_f (c : SGraph) (l : List ArcD) : Fn Try.prog 47 [.agg (dSGraph c), .sh 4 (l.map dArcD)] (.tup [.lit (.string (ftS c l)), .lit (.bool (ftB c l))]) [] := by
  refine Fn_of Try.func47 rfl (by kernel_rfl) rfl rfl ?_
  intro w0 A hin
  have hz := len_dArcD l
  have hza := len_dArcD c.arcs
  have hV := l5Good_f c
  cases hg : goodSG c <;> rw [hg] at hV
  · have hn : ftB c l = false := by simp [ftB, hg]
    repeat' (first | refine goZ ?_ | refine R_callZ rfl (hV) rfl rfl rfl ?_ | refine R_callvZ rfl (hV) rfl rfl rfl rfl ?_ | refine D_callZ rfl (hV) rfl rfl rfl ?_ | ((first | refine R_cond rfl (fun hq => ?_) fun hq => ?_ | refine R_guardT rfl rfl rfl (fun hq => ?_) fun hq => ?_ | refine R_guardF rfl rfl rfl (fun hq => ?_) fun hq => ?_ | refine D_guardT rfl rfl rfl (fun hq => ?_) fun hq => ?_ | refine D_guardF rfl rfl rfl (fun hq => ?_) fun hq => ?_) <;> (try rw [hq]) <;> first | have hp := of_decide_eq_true hq | have hp := of_decide_eq_false hq | have hp := of_decide_eq_false (not_t hq) | have hp := of_decide_eq_true (not_f hq) | have hp := hq))
    exact ret_lit2 rfl (by rw [ftS_no hn]) (by rw [hn])
  have hlen := goodSG_len hg
  repeat' (first | refine goZ ?_ | refine R_callZ rfl (hV) rfl rfl rfl ?_ | refine R_callvZ rfl (hV) rfl rfl rfl rfl ?_ | refine D_callZ rfl (hV) rfl rfl rfl ?_ | ((first | refine R_cond rfl (fun hq => ?_) fun hq => ?_ | refine R_guardT rfl rfl rfl (fun hq => ?_) fun hq => ?_ | refine R_guardF rfl rfl rfl (fun hq => ?_) fun hq => ?_ | refine D_guardT rfl rfl rfl (fun hq => ?_) fun hq => ?_ | refine D_guardF rfl rfl rfl (fun hq => ?_) fun hq => ?_) <;> (try rw [hq]) <;> first | have hp := of_decide_eq_true hq | have hp := of_decide_eq_false hq | have hp := of_decide_eq_false (not_t hq) | have hp := of_decide_eq_true (not_f hq) | have hp := hq))
  · have hn : ftB c l = false := by rw [ftB, decide_eq_false (show ¬ l.length ≤ 4000 by omega), Bool.false_and, Bool.and_false]
    exact ret_lit2 rfl (by rw [ftS_no hn]) (by rw [hn])
  refine W_loop (fun k : Nat => ⟨_, [(1, .sh 4 (l.map dArcD)), (2, .ptr 0 0), (6, .lit (.int .i64 (atK l k))), (20, .sh 4 (l.map dArcD)), (21, .lit (.int .i64 l.length)), (22, .lit (.int .i64 k))], [.cells 67 (dSGraph c)]⟩) (fun k => k ≤ l.length ∧ ∀ j, j < k → okP c l j = true) (fun k => l.length - k) 0 ⟨Nat.zero_le _, by omega⟩ (by rw [← hz]; exact weakZ []) ?_
  rintro k ⟨hk, hj⟩
  have hat : atK l (k + 1) = (nth l k).dst := by simp [atK]
  repeat' (first | refine goZ ?_ | refine R_callZ rfl (l6Trace_f c l hg (by omega) (okA_mem (okA_yes (show ¬ k < l.length by omega) hj))) rfl rfl rfl ?_ | refine R_callvZ rfl (l6Trace_f c l hg (by omega) (okA_mem (okA_yes (show ¬ k < l.length by omega) hj))) rfl rfl rfl rfl ?_ | refine D_callZ rfl (l6Trace_f c l hg (by omega) (okA_mem (okA_yes (show ¬ k < l.length by omega) hj))) rfl rfl rfl ?_ | ((first | refine R_cond rfl (fun hq => ?_) fun hq => ?_ | refine R_guardT rfl rfl rfl (fun hq => ?_) fun hq => ?_ | refine R_guardF rfl rfl rfl (fun hq => ?_) fun hq => ?_ | refine D_guardT rfl rfl rfl (fun hq => ?_) fun hq => ?_ | refine D_guardF rfl rfl rfl (fun hq => ?_) fun hq => ?_) <;> (try rw [hq]) <;> first | have hp := of_decide_eq_true hq | have hp := of_decide_eq_false hq | have hp := of_decide_eq_false (not_t hq) | have hp := of_decide_eq_true (not_f hq) | have hp := hq))
  rotate_right
  · have hy : ftB c l = true := by rw [ftB, hg, okA_yes (by omega) hj, decide_eq_true (by omega)]; rfl
    exact ret_lit2 rfl (by rw [ftS, if_pos hy]) (by rw [hy])
  refine W_loop (fun j : Nat => ⟨_, [(1, .sh 4 (l.map dArcD)), (2, .ptr 0 0), (6, .lit (.int .i64 (atK l k))), (8, .ptr 1 0), (9, .lit (.bool ((c.arcs.take j).any fun b => decide (nth l k = b)))), (20, .sh 4 (l.map dArcD)), (21, .lit (.int .i64 l.length)), (22, .lit (.int .i64 k)), (27, .sh 4 (c.arcs.map dArcD)), (28, .lit (.int .i64 c.arcs.length)), (29, .lit (.int .i64 j))], [.cells 67 (dSGraph c), .cells 134 (dArcD (nth l k))]⟩) (fun j => j ≤ c.arcs.length) (fun j => c.arcs.length - j) 0 (Nat.zero_le _) (by rw [← hza]; exact weakZ []) ?_
  intro j hjj
  have hE := eq_ArcD (nth l k) (nth c.arcs j)
  have hs : j < c.arcs.length → ((c.arcs.take (j + 1)).any fun b => decide (nth l k = b)) = (((c.arcs.take j).any fun b => decide (nth l k = b)) || decide (nth l k = nth c.arcs j)) := fun h => by rw [take_nth h]; simp
  have hf : j = c.arcs.length → ((c.arcs.take j).any fun b => decide (nth l k = b)) = decide (nth l k ∈ c.arcs) := fun h => by
    rw [h, List.take_length, Bool.eq_iff_iff]; simp
  repeat' (first | refine goZ ?_ | refine R_eqs hE rfl rfl rfl ?_ | ((first | refine R_cond rfl (fun hq => ?_) fun hq => ?_ | refine R_guardT rfl rfl rfl (fun hq => ?_) fun hq => ?_ | refine R_guardF rfl rfl rfl (fun hq => ?_) fun hq => ?_ | refine D_guardT rfl rfl rfl (fun hq => ?_) fun hq => ?_ | refine D_guardF rfl rfl rfl (fun hq => ?_) fun hq => ?_) <;> (try rw [hq]) <;> first | have hp := of_decide_eq_true hq | have hp := of_decide_eq_false hq | have hp := of_decide_eq_false (not_t hq) | have hp := of_decide_eq_true (not_f hq) | have hp := hq))
  · refine ⟨j + 1, by omega, by omega, ?_⟩
    rw [hs (by omega), show (c.arcs.take j).any (fun b => decide (nth l k = b)) = false by first | assumption | (simp_all; done), Bool.false_or]
    exact weakZ _
  · refine ⟨j + 1, by omega, by omega, ?_⟩
    rw [hs (by omega), show (c.arcs.take j).any (fun b => decide (nth l k = b)) = true by first | assumption | (simp_all; done), Bool.true_or]
    exact weakZ _
  · have hm := hf (by omega)
    have hn : ftB c l = false := by rw [ftB, okA_no (show k < l.length by omega) (by rw [okP, Bool.and_eq_false_iff, decide_eq_false_iff_not]; first | exact Or.inl hp | exact Or.inr (by rw [← hm]; first | exact hp | exact hq | (simpa using hp) | (simpa using hq))), Bool.and_false, Bool.and_false]
    exact ret_lit2 rfl (by rw [ftS_no hn]) (by rw [hn])
  · have hm := hf (by omega)
    have hm2 : nth l k ∈ c.arcs := by rw [← decide_eq_true_eq (p := nth l k ∈ c.arcs), ← hm]; first | assumption | (simp_all; done)
    refine ⟨k + 1, ⟨by omega, fun j hj' => ?_⟩, by omega, ?_⟩
    · by_cases e : j = k
      · rw [e, okP, Bool.and_eq_true, decide_eq_true_eq, decide_eq_true_eq]; exact ⟨hp, hm2⟩
      · exact hj j (by omega)
    · rw [hat]
      exact weakZ _
  · have hm := hf (by omega)
    have hn : ftB c l = false := by rw [ftB, okA_no (show k < l.length by omega) (by rw [okP, Bool.and_eq_false_iff, decide_eq_false_iff_not]; first | exact Or.inl hp | exact Or.inr (by rw [← hm]; first | exact hp | exact hq | (simpa using hp) | (simpa using hq))), Bool.and_false, Bool.and_false]
    exact ret_lit2 rfl (by rw [ftS_no hn]) (by rw [hn])

set_option maxHeartbeats 1600000 in
theorem FormatTrace_f (c : SGraph) (l : List ArcD) : Fn Try.prog 49 [.agg (dSGraph c), .sh 4 (l.map dArcD)] (.tup [.lit (.string (ftS c l)), .lit (.bool (ftB c l))]) [] := by
  refine Fn_of Try.func49 rfl (by kernel_rfl) rfl rfl ?_
  intro w0 A hin
  have hz := len_dArcD l
  have hV := IsValidStateGraph_f c
  cases hg : goodSG c <;> rw [hg] at hV
  · have hn : ftB c l = false := by simp [ftB, hg]
    repeat' (first | refine goZ ?_ | refine R_callZ rfl (hV) rfl rfl rfl ?_ | refine R_callvZ rfl (hV) rfl rfl rfl rfl ?_ | refine D_callZ rfl (hV) rfl rfl rfl ?_ | ((first | refine R_cond rfl (fun hq => ?_) fun hq => ?_ | refine R_guardT rfl rfl rfl (fun hq => ?_) fun hq => ?_ | refine R_guardF rfl rfl rfl (fun hq => ?_) fun hq => ?_ | refine D_guardT rfl rfl rfl (fun hq => ?_) fun hq => ?_ | refine D_guardF rfl rfl rfl (fun hq => ?_) fun hq => ?_) <;> (try rw [hq]) <;> first | have hp := of_decide_eq_true hq | have hp := of_decide_eq_false hq | have hp := of_decide_eq_false (not_t hq) | have hp := of_decide_eq_true (not_f hq) | have hp := hq))
    exact ret_lit2 rfl (by rw [ftS_no hn]) (by rw [hn])
  have hlen := goodSG_len hg
  repeat' (first | refine goZ ?_ | refine R_callZ rfl (hV) rfl rfl rfl ?_ | refine R_callvZ rfl (hV) rfl rfl rfl rfl ?_ | refine D_callZ rfl (hV) rfl rfl rfl ?_ | ((first | refine R_cond rfl (fun hq => ?_) fun hq => ?_ | refine R_guardT rfl rfl rfl (fun hq => ?_) fun hq => ?_ | refine R_guardF rfl rfl rfl (fun hq => ?_) fun hq => ?_ | refine D_guardT rfl rfl rfl (fun hq => ?_) fun hq => ?_ | refine D_guardF rfl rfl rfl (fun hq => ?_) fun hq => ?_) <;> (try rw [hq]) <;> first | have hp := of_decide_eq_true hq | have hp := of_decide_eq_false hq | have hp := of_decide_eq_false (not_t hq) | have hp := of_decide_eq_true (not_f hq) | have hp := hq))
  · have hn : ftB c l = false := by rw [ftB, decide_eq_false (show ¬ l.length ≤ 4000 by omega), Bool.false_and, Bool.and_false]
    exact ret_lit2 rfl (by rw [ftS_no hn]) (by rw [hn])
  refine W_loop (fun k : Nat => ⟨_, [(2, .ptr 0 0), (6, .own 1), (7, .lit (.int .i64 (atK l k))), (19, .sh 4 (l.map dArcD)), (20, .lit (.int .i64 l.length)), (21, .lit (.int .i64 k))], [.cells 67 (dSGraph c), .arr 9 1 (strs (wordsL c (l.take k))) true]⟩) (fun k => k ≤ l.length ∧ ∀ j, j < k → okP c l j = true) (fun k => l.length - k) 0 ⟨Nat.zero_le _, by omega⟩ (by rw [← hz]; exact weakZ []) ?_
  rintro k ⟨hk, hj⟩
  have hb1 : (wordsL c (l.take k)).length ≤ k := by simp [wordsL]; omega
  have hO : nth l k ∈ c.arcs → WordOk c.signals (nth l k).sig := fun h => words_ok hg _ h
  have hJ : ¬ k < l.length → ∀ w ∈ wordsL c (l.take k), w.size ≤ 1000 := fun h w hw => by
    rw [List.take_of_length_le (by omega)] at hw
    have := words_len hg (okA_mem (okA_yes h hj)) w hw; omega
  have hat : atK l (k + 1) = (nth l k).dst := by simp [atK]
  repeat' (first | refine goZ ?_ | refine goH ?_ | refine H_two (by exact rfl) (by exact rfl) (by exact rfl) (by exact rfl) (by exact rfl) ?_ ?_ | refine H_three (by exact rfl) (by exact rfl) (by exact rfl) (by exact rfl) (by exact rfl) (by exact rfl) (by exact rfl) ?_ ?_ ?_  | refine R_callZ rfl (Contains_ArcD_f _ _) rfl rfl rfl ?_ | refine R_callZ rfl (edgeText_f c.signals ⟨(nth l k).sig, (nth l k).up⟩ (hO (by assumption))) rfl rfl rfl ?_ | refine R_callZ rfl (Join_f (wordsL c (l.take k)) (by omega) (hJ (by omega))) rfl rfl rfl ?_ | refine R_callvZ rfl (Contains_ArcD_f _ _) rfl rfl rfl rfl ?_ | refine R_callvZ rfl (edgeText_f c.signals ⟨(nth l k).sig, (nth l k).up⟩ (hO (by assumption))) rfl rfl rfl rfl ?_ | refine R_callvZ rfl (Join_f (wordsL c (l.take k)) (by omega) (hJ (by omega))) rfl rfl rfl rfl ?_ | refine D_callZ rfl (Contains_ArcD_f _ _) rfl rfl rfl ?_ | refine D_callZ rfl (edgeText_f c.signals ⟨(nth l k).sig, (nth l k).up⟩ (hO (by assumption))) rfl rfl rfl ?_ | refine D_callZ rfl (Join_f (wordsL c (l.take k)) (by omega) (hJ (by omega))) rfl rfl rfl ?_ | ((first | refine R_cond rfl (fun hq => ?_) fun hq => ?_ | refine R_guardT rfl rfl rfl (fun hq => ?_) fun hq => ?_ | refine R_guardF rfl rfl rfl (fun hq => ?_) fun hq => ?_ | refine D_guardT rfl rfl rfl (fun hq => ?_) fun hq => ?_ | refine D_guardF rfl rfl rfl (fun hq => ?_) fun hq => ?_) <;> (try rw [hq]) <;> first | have hp := of_decide_eq_true hq | have hp := of_decide_eq_false hq | have hp := of_decide_eq_false (not_t hq) | have hp := of_decide_eq_true (not_f hq) | have hp := hq) | refine W_held mixed [(9, 1, .int .i64 (nth l k).sig), (9, 2, .bool (nth l k).up), (9, 3, .int .i64 (nth l k).dst)] ?_)
  · have hn : ftB c l = false := by rw [ftB, okA_no (show k < l.length by omega) (by rw [okP, Bool.and_eq_false_iff, decide_eq_false_iff_not, decide_eq_false_iff_not]; first | exact Or.inr hp | exact Or.inl hp), Bool.and_false, Bool.and_false]
    exact ret_lit2 rfl (by rw [ftS_no hn]) (by rw [hn])
  · refine ⟨k + 1, ⟨by omega, fun j hj' => ?_⟩, by omega, ?_⟩
    · by_cases e : j = k
      · rw [e, okP, Bool.and_eq_true, decide_eq_true_eq, decide_eq_true_eq]; exact ⟨by assumption, hp⟩
      · exact hj j (by omega)
    · have e : strs (wordsL c (l.take (k + 1))) = strs (wordsL c (l.take k)) ++ [[.lit (.string (wordB c.signals (nth l k).sig (nth l k).up))]] := by
        rw [take_nth (show k < l.length by omega)]; simp [wordsL, wordA, strs]
      rw [e, hat]
      exact weakZ _
  · have hn : ftB c l = false := by rw [ftB, okA_no (show k < l.length by omega) (by rw [okP, Bool.and_eq_false_iff, decide_eq_false_iff_not, decide_eq_false_iff_not]; first | exact Or.inr hp | exact Or.inl hp), Bool.and_false, Bool.and_false]
    exact ret_lit2 rfl (by rw [ftS_no hn]) (by rw [hn])
  · have hy : ftB c l = true := by rw [ftB, hg, okA_yes (by omega) hj, decide_eq_true (by omega)]; rfl
    exact ret_lit2 rfl (by rw [ftS, if_pos hy, List.take_of_length_le (by omega)]) (by rw [hy])
end Go.Proofs.Ytjfipianehabgaa
