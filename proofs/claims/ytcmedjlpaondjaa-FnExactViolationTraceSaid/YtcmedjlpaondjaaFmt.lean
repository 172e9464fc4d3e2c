/- Words joined by blanks: the plain law, and strings.Join. No condition. Traces as text: what the reference's and the program's functions hand back. No condition. -/
import Derived.Test.YtcmedjlpaondjaaNet
import Derived.Test.YtcmedjlpaondjaaIx
import Derived.Lib.Join
import Derived.Shelf.Strings.OnBuilder
import Derived.Test.YtcmedjlpaondjaaLayJoin
import Derived.Test.YtcmedjlpaondjaaInp
import Derived.Test.YtcmedjlpaondjaaSgc
import Derived.Test.YtcmedjlpaondjaaDrw
set_option linter.unusedSimpArgs false
set_option linter.unusedVariables false
set_option maxHeartbeats 2000000
namespace Go.Proofs.Ytcmedjlpaondjaa
open Go.ChangeShapes Go.WideShapes Go.ChangeAt Go.RowKit

theorem inter_snoc {α : Type} (sep : List α) : ∀ (xs : List (List α)) (x : List α), xs ≠ [] → sep.intercalate (xs ++ [x]) = sep.intercalate xs ++ (sep ++ x)
  | [], _, h => absurd rfl h
  | [y], x, _ => by simp [List.intercalate, List.intersperse]
  | y :: z :: r, x, _ => by
    have ih := inter_snoc sep (z :: r) x (by simp)
    simp only [List.cons_append] at ih ⊢
    simp only [List.intercalate, List.intersperse_cons_cons, List.flatten_cons] at ih ⊢
    rw [ih]; simp
/-- Words, a blank between them. -/
def joinB (ws : List ByteArray) : ByteArray := ⟨(Go.Lib.join (ws.map (·.data.toList)) [32]).toArray⟩
theorem joinB_nil : joinB [] = ⟨#[]⟩ := rfl
theorem ba_mk (a : ByteArray) : (⟨a.data.toList.toArray⟩ : ByteArray) = a := by cases a; simp
theorem ba_app (a b : List UInt8) : (⟨(a ++ b).toArray⟩ : ByteArray) = ⟨a.toArray⟩ ++ ⟨b.toArray⟩ := by
  apply ByteArray.ext
  simp [ByteArray.data_append]
theorem joinB_snoc (ws : List ByteArray) (w : ByteArray) : joinB (ws ++ [w]) = if ws = [] then w else joinB ws ++ ⟨#[32]⟩ ++ w := by
  split
  · rename_i h; subst h
    simp only [joinB, Go.Lib.join, List.nil_append, List.map_cons, List.map_nil]
    rw [show ([32] : List UInt8).intercalate [w.data.toList] = w.data.toList by simp [List.intercalate]]

  · rename_i h
    simp only [joinB, Go.Lib.join, List.map_append, List.map_cons, List.map_nil]
    rw [inter_snoc _ _ _ (by simpa using h), ba_app, ba_app, ba_mk, ByteArray.append_assoc]
theorem joinB_size : ∀ (ws : List ByteArray) (m : Nat), (∀ w ∈ ws, w.size ≤ m) → (joinB ws).size ≤ (m + 1) * ws.length := by
  intro ws m
  have key : ∀ n : Nat, n ≤ ws.length → (∀ w ∈ ws, w.size ≤ m) → (joinB (ws.take n)).size ≤ (m + 1) * n := by
    intro n
    induction n with
    | zero => intro _ _; simp [joinB_nil]; rfl
    | succ n ih =>
      intro hn hw
      have h1 := ih (by omega) hw
      have h2 := hw _ (nth_mem (show n < ws.length by omega))
      rw [take_nth (show n < ws.length by omega), joinB_snoc]
      have e : (m + 1) * (n + 1) = (m + 1) * n + (m + 1) := Nat.mul_succ ..
      split
      · omega
      · rw [ByteArray.size_append, ByteArray.size_append]
        have e2 : (⟨#[32]⟩ : ByteArray).size = 1 := rfl
        omega
  intro hw
  have := key ws.length (Nat.le_refl _) hw
  rwa [List.take_length] at this

theorem Join_f (ws : List ByteArray) (hl : ws.length ≤ 1000000) (hw : ∀ w ∈ ws, w.size ≤ 1000) : Fn Try.prog 97 [.sh 1 (strs ws), .lit (.string ⟨#[32]⟩)] (.lit (.string (joinB ws))) [] := by
  have hsz := joinB_size ws 1000 hw
  have hsz2 : (joinB ws).size ≤ 1001000000 := by
    have : (1000 + 1) * ws.length ≤ 1001 * 1000000 := Nat.mul_le_mul_left _ hl
    omega
  refine Fn.of_lit (by simp only [litOk]; omega) (plain_of Try.func97 (by kernel_rfl) (by kernel_rfl)) fun w us h => ?_
  obtain ⟨u, us', rfl, h1, h2⟩ := vxs_cons h
  obtain ⟨u2, rfl, h3⟩ := vxs_one h2
  obtain ⟨rfl, _⟩ := h3.lit_inv
  obtain ⟨bs, h4, hxx⟩ := h1.sh_inv
  clear hxx
  have hlen : (Go.Lib.join (ws.map (·.data.toList)) (⟨#[32]⟩ : ByteArray).data.toList).length ≤ 140737488355328 := by
    have e : (joinB ws).size = (Go.Lib.join (ws.map (·.data.toList)) [32]).length := by simp [joinB, ByteArray.size]
    show (Go.Lib.join (ws.map (·.data.toList)) [32]).length ≤ _
    omega
  generalize hx : strs ws = xs at h4
  have hxl : xs.length = ws.length := by rw [← hx]; simp [strs]
  cases h4 with
  | shnil q1 q2 =>
    obtain rfl : ws = [] := List.length_eq_zero_iff.1 (by rw [← hxl]; rfl)
    refine (Any.strings_Join_none layJoin layJoinX _ _ _ w).mono ?_
    rintro e w' ⟨rfl, rfl⟩
    exact ⟨rfl, Ext.refl _⟩
  | sh q1 q2 q3 q4 q5 q6 =>
    rename_i b o cap us bs
    rw [hxl] at q2 ⊢
    have hus : us = ws.map Value.string := litV_inv (us := ws.map Value.string) (by
      have e : (ws.map Value.string).map D.lit = xs.flatten := by
        rw [← hx]
        clear hx hxl q2 q5 q6 h1 h hlen hsz hsz2 hw hl
        induction ws with
        | nil => rfl
        | cons x l ih => simp only [strs, List.map_cons, List.flatten_cons, List.cons_append, List.nil_append] at ih ⊢; rw [ih]
      rw [e]; exact q5)
    refine (Any.strings_Join layJoin layJoinX b o cap ws ⟨#[32]⟩ w (fun j x hj => ?_) q4 (by omega) q2 hlen).mono ?_
    · have hjl : j < ws.length := (List.getElem?_eq_some_iff.1 hj).1
      rw [q6 j (by rw [hus]; simpa using hjl), hus]
      simp [hj]
    · rintro e w' ⟨rfl, hb⟩
      exact ⟨rfl, hb⟩
end Go.Proofs.Ytcmedjlpaondjaa
namespace Go.Proofs.Ytcmedjlpaondjaa
open Go.ChangeShapes Go.WideShapes Go.ChangeAt Go.RowKit

theorem eq_ArcD (x y : ArcD) : EqFn Try.prog 69 [.int .i64 x.src, .int .i64 x.sig, .bool x.up, .int .i64 x.dst] [.int .i64 y.src, .int .i64 y.sig, .bool y.up, .int .i64 y.dst] (decide (x = y)) := by
  refine ⟨by kernel_rfl, fun w => ?_⟩
  have u3 := Try.underlying3
  have a3 := Try.isAgg3
  have z3 := Try.sizeOf3
  have u4 := Try.underlying4
  have a4 := Try.isAgg4
  have z4 := Try.sizeOf4
  rw [show (10000 : Nat) = 9999 + 1 from rfl, run_equalIn_agg w 9999 69 _ _ (by kernel_rfl) (by kernel_rfl)]
  simp only [Program.fieldsOf, Try.underlying69]
  go_simp
  obtain ⟨a, b, c, d⟩ := x
  obtain ⟨e, f, g, h⟩ := y
  by_cases h1 : a = e <;> by_cases h2 : b = f <;> by_cases h3 : c = g <;> by_cases h4 : d = h <;> simp [h1, h2, h3, h4]

theorem Index_ArcD_f (l : List ArcD) (x : ArcD) : Fn Try.prog 136 [.sh 4 (l.map dArcD), .agg (dArcD x)] (.lit (.int .i64 (findIx (fun y => decide (x = y)) l))) [] := by
  refine Fn_of Try.func136 rfl (by kernel_rfl) rfl rfl ?_
  intro w0 A hin
  have hl := given_len hin (i := 0) rfl
  rw [len_dArcD] at hl
  repeat' (first | refine goZ ?_ | ((first | refine R_cond rfl (fun hq => ?_) fun hq => ?_ | refine R_guardT rfl rfl rfl (fun hq => ?_) fun hq => ?_ | refine R_guardF rfl rfl rfl (fun hq => ?_) fun hq => ?_ | refine D_guardT rfl rfl rfl (fun hq => ?_) fun hq => ?_ | refine D_guardF rfl rfl rfl (fun hq => ?_) fun hq => ?_) <;> (try rw [hq]) <;> first | have hp := of_decide_eq_true hq | have hp := of_decide_eq_false hq | have hp := of_decide_eq_false (not_t hq) | have hp := of_decide_eq_true (not_f hq) | have hp := hq))
  refine W_loop (fun k : Nat => ⟨_, [(0, .sh 4 (l.map dArcD)), (3, .ptr 0 0), (7, .lit (.int .i64 l.length)), (8, .lit (.int .i64 k))], [.cells 69 (dArcD x)]⟩) (fun k => k ≤ l.length ∧ ∀ j, j < k → decide (x = nth l j) = false) (fun k => l.length - k) 0 ⟨Nat.zero_le _, by omega⟩ (by rw [show (l.length : Int) = ((l.map dArcD).length : Int) by simp]; exact weakZ []) ?_
  rintro k ⟨hk, hj⟩
  have hE := eq_ArcD x (nth l k)
  repeat' (first | refine W_drawAt 5 mixed tabOk rfl rfl rfl ?_ | refine go1 ?_ | refine R_eqs hE rfl rfl rfl ?_ | ((first | refine R_cond rfl (fun hq => ?_) fun hq => ?_ | refine R_guardT rfl rfl rfl (fun hq => ?_) fun hq => ?_ | refine R_guardF rfl rfl rfl (fun hq => ?_) fun hq => ?_ | refine D_guardT rfl rfl rfl (fun hq => ?_) fun hq => ?_ | refine D_guardF rfl rfl rfl (fun hq => ?_) fun hq => ?_) <;> (try rw [hq]) <;> first | have hp := of_decide_eq_true hq | have hp := of_decide_eq_false hq | have hp := of_decide_eq_false (not_t hq) | have hp := of_decide_eq_true (not_f hq) | have hp := hq))
  · exact ret_int' rfl (findIx_at (fun y => decide (x = y)) (by omega) hj hq).symm
  · exact ⟨k + 1, ⟨by omega, fun j hj' => by by_cases e : j = k; (rw [e]; exact hq); exact hj j (by omega)⟩, by omega, weakZ _⟩
  · exact ret_int' rfl (findIx_not (fun y => decide (x = y)) (allN fun j h => hj j (by omega))).symm
theorem Contains_ArcD_f (l : List ArcD) (x : ArcD) : Fn Try.prog 95 [.sh 4 (l.map dArcD), .agg (dArcD x)] (.lit (.bool (decide (x ∈ l)))) [] := by
  refine Fn_of Try.func95 rfl (by kernel_rfl) rfl rfl ?_
  intro w0 A hin
  repeat' (first | refine goZ ?_ | refine R_callZ rfl (Index_ArcD_f _ _) rfl rfl rfl ?_ | refine R_callvZ rfl (Index_ArcD_f _ _) rfl rfl rfl rfl ?_ | refine D_callZ rfl (Index_ArcD_f _ _) rfl rfl rfl ?_ | ((first | refine R_cond rfl (fun hq => ?_) fun hq => ?_ | refine R_guardT rfl rfl rfl (fun hq => ?_) fun hq => ?_ | refine R_guardF rfl rfl rfl (fun hq => ?_) fun hq => ?_ | refine D_guardT rfl rfl rfl (fun hq => ?_) fun hq => ?_ | refine D_guardF rfl rfl rfl (fun hq => ?_) fun hq => ?_) <;> (try rw [hq]) <;> first | have hp := of_decide_eq_true hq | have hp := of_decide_eq_false hq | have hp := of_decide_eq_false (not_t hq) | have hp := of_decide_eq_true (not_f hq) | have hp := hq))
  exact ret_bool' rfl (by rw [findIx_any, Bool.eq_iff_iff]; simp)

/-! ### Words -/
def wordB (ss : List Sig) (sig : Int) (up : Bool) : ByteArray := if sig < 0 then ⟨#[126]⟩ else if up then (nth ss sig.toNat).name ++ ⟨#[43]⟩ else (nth ss sig.toNat).name ++ ⟨#[45]⟩
structure WordOk (ss : List Sig) (sig : Int) : Prop where
  lt : sig < ss.length
  nm : ∀ s ∈ ss, s.name.size ≤ 6
theorem wordB_size {ss : List Sig} {sig : Int} (h : WordOk ss sig) (up : Bool) : (wordB ss sig up).size ≤ 7 := by
  unfold wordB
  split
  · decide
  · have := h.nm _ (nth_mem (show sig.toNat < ss.length by have := h.lt; omega))
    have e1 : (⟨#[43]⟩ : ByteArray).size = 1 := rfl
    have e2 : (⟨#[45]⟩ : ByteArray).size = 1 := rfl
    split <;> rw [ByteArray.size_append] <;> omega
theorem edgeText_f (ss : List Sig) (l : Lab) (h : WordOk ss l.sig) : Fn Try.prog 96 [.sh 2 (ss.map dSig), .agg (dLab l)] (.lit (.string (wordB ss l.sig l.up))) [] := by
  refine Fn_of Try.func96 rfl (by kernel_rfl) rfl rfl ?_
  intro w0 A hin
  have hz := len_dSig ss
  have hlt := h.lt
  have hs : 0 ≤ l.sig → (nth ss l.sig.toNat).name.size ≤ 6 := fun h0 => h.nm _ (nth_mem (by omega))
  have e1 : (⟨#[43]⟩ : ByteArray).size = 1 := rfl
  have e2 : (⟨#[45]⟩ : ByteArray).size = 1 := rfl
  cases hu : l.up
  · repeat' (first | refine goZ ?_ | ((first | refine R_cond rfl (fun hq => ?_) fun hq => ?_ | refine R_guardT rfl rfl rfl (fun hq => ?_) fun hq => ?_ | refine R_guardF rfl rfl rfl (fun hq => ?_) fun hq => ?_ | refine D_guardT rfl rfl rfl (fun hq => ?_) fun hq => ?_ | refine D_guardF rfl rfl rfl (fun hq => ?_) fun hq => ?_) <;> (try rw [hq]) <;> first | have hp := of_decide_eq_true hq | have hp := of_decide_eq_false hq | have hp := of_decide_eq_false (not_t hq) | have hp := of_decide_eq_true (not_f hq) | have hp := hq))
    · exact ret_lit rfl (by rw [wordB, if_pos hp])
    · exact ret_lit rfl (by rw [wordB, if_neg hp, if_neg (by simp)])
  · repeat' (first | refine goZ ?_ | ((first | refine R_cond rfl (fun hq => ?_) fun hq => ?_ | refine R_guardT rfl rfl rfl (fun hq => ?_) fun hq => ?_ | refine R_guardF rfl rfl rfl (fun hq => ?_) fun hq => ?_ | refine D_guardT rfl rfl rfl (fun hq => ?_) fun hq => ?_ | refine D_guardF rfl rfl rfl (fun hq => ?_) fun hq => ?_) <;> (try rw [hq]) <;> first | have hp := of_decide_eq_true hq | have hp := of_decide_eq_false hq | have hp := of_decide_eq_false (not_t hq) | have hp := of_decide_eq_true (not_f hq) | have hp := hq))
    · exact ret_lit rfl (by rw [wordB, if_pos hp])
    · exact ret_lit rfl (by rw [wordB, if_neg hp, if_pos rfl])
theorem l6Word_f (c : SGraph) (a : ArcD) (h : WordOk c.signals a.sig) : Fn Try.prog 87 [.agg (dSGraph c), .agg (dArcD a)] (.lit (.string (wordB c.signals a.sig a.up))) [] := by
  refine Fn_of Try.func87 rfl (by kernel_rfl) rfl rfl ?_
  intro w0 A hin
  have hz := len_dSig c.signals
  have hlt := h.lt
  have hs : 0 ≤ a.sig → (nth c.signals a.sig.toNat).name.size ≤ 6 := fun h0 => h.nm _ (nth_mem (by omega))
  have e1 : (⟨#[43]⟩ : ByteArray).size = 1 := rfl
  have e2 : (⟨#[45]⟩ : ByteArray).size = 1 := rfl
  cases hu : a.up
  · repeat' (first | refine goZ ?_ | ((first | refine R_cond rfl (fun hq => ?_) fun hq => ?_ | refine R_guardT rfl rfl rfl (fun hq => ?_) fun hq => ?_ | refine R_guardF rfl rfl rfl (fun hq => ?_) fun hq => ?_ | refine D_guardT rfl rfl rfl (fun hq => ?_) fun hq => ?_ | refine D_guardF rfl rfl rfl (fun hq => ?_) fun hq => ?_) <;> (try rw [hq]) <;> first | have hp := of_decide_eq_true hq | have hp := of_decide_eq_false hq | have hp := of_decide_eq_false (not_t hq) | have hp := of_decide_eq_true (not_f hq) | have hp := hq))
    · exact ret_lit rfl (by rw [wordB, if_pos hp])
    · exact ret_lit rfl (by rw [wordB, if_neg hp, if_neg (by simp)])
  · repeat' (first | refine goZ ?_ | ((first | refine R_cond rfl (fun hq => ?_) fun hq => ?_ | refine R_guardT rfl rfl rfl (fun hq => ?_) fun hq => ?_ | refine R_guardF rfl rfl rfl (fun hq => ?_) fun hq => ?_ | refine D_guardT rfl rfl rfl (fun hq => ?_) fun hq => ?_ | refine D_guardF rfl rfl rfl (fun hq => ?_) fun hq => ?_) <;> (try rw [hq]) <;> first | have hp := of_decide_eq_true hq | have hp := of_decide_eq_false hq | have hp := of_decide_eq_false (not_t hq) | have hp := of_decide_eq_true (not_f hq) | have hp := hq))
    · exact ret_lit rfl (by rw [wordB, if_pos hp])
    · exact ret_lit rfl (by rw [wordB, if_neg hp, if_pos rfl])
theorem words_ok {c : SGraph} (h : goodSG c = true) : ∀ a ∈ c.arcs, WordOk c.signals a.sig := by
  intro a ha
  simp only [goodSG, sgB, sgA, sigsB, Bool.and_eq_true, decide_eq_true_eq] at h
  have h1 := List.all_eq_true.1 h.1.2.2 a ha
  simp only [arcB, labB, Bool.and_eq_true, Bool.or_eq_true, decide_eq_true_eq] at h1
  refine ⟨by omega, fun s hs => ?_⟩
  obtain ⟨j, hj, rfl⟩ := List.getElem_of_mem hs
  have h2 := (h.1.1.1.1 j hj).1
  rw [nth_get hj] at h2
  simp only [sigOk, nameB, Bool.and_eq_true, decide_eq_true_eq] at h2
  omega

/-! ### Traces -/
def wordA (c : SGraph) (a : ArcD) : ByteArray := wordB c.signals a.sig a.up
def wordsL (c : SGraph) (l : List ArcD) : List ByteArray := l.map (wordA c)
theorem words_len {c : SGraph} {l : List ArcD} (hg : goodSG c = true) (h : ∀ a ∈ l, a ∈ c.arcs) : ∀ w ∈ wordsL c l, w.size ≤ 7 := by
  intro w hw
  obtain ⟨a, ha, rfl⟩ := List.mem_map.1 hw
  exact wordB_size (words_ok hg a (h a ha)) a.up
theorem l6Trace_f (c : SGraph) (l : List ArcD) (hg : goodSG c = true) (hl : l.length ≤ 100000) (h : ∀ a ∈ l, a ∈ c.arcs) : Fn Try.prog 37 [.agg (dSGraph c), .sh 4 (l.map dArcD)] (.lit (.string (joinB (wordsL c l)))) [] := by
  refine Fn_of Try.func37 rfl (by kernel_rfl) rfl rfl ?_
  intro w0 A hin
  have hz := len_dArcD l
  have hws := words_len hg h
  repeat' (first | refine goZ ?_ | ((first | refine R_cond rfl (fun hq => ?_) fun hq => ?_ | refine R_guardT rfl rfl rfl (fun hq => ?_) fun hq => ?_ | refine R_guardF rfl rfl rfl (fun hq => ?_) fun hq => ?_ | refine D_guardT rfl rfl rfl (fun hq => ?_) fun hq => ?_ | refine D_guardF rfl rfl rfl (fun hq => ?_) fun hq => ?_) <;> (try rw [hq]) <;> first | have hp := of_decide_eq_true hq | have hp := of_decide_eq_false hq | have hp := of_decide_eq_false (not_t hq) | have hp := of_decide_eq_true (not_f hq) | have hp := hq))
  refine W_loop (fun k : Nat => ⟨_, [(2, .ptr 0 0), (5, .lit (.string (joinB (wordsL c (l.take k))))), (8, .sh 4 (l.map dArcD)), (9, .lit (.int .i64 l.length)), (10, .lit (.int .i64 k))], [.cells 35 (dSGraph c)]⟩) (fun k => k ≤ l.length) (fun k => l.length - k) 0 (Nat.zero_le _) (by rw [← hz]; exact weakZ []) ?_
  intro k hk
  have hO : k < l.length → WordOk c.signals (nth l k).sig := fun hk => words_ok hg _ (h _ (nth_mem hk))
  have hwz : k < l.length → (wordA c (nth l k)).size ≤ 7 := fun hk => wordB_size (words_ok hg _ (h _ (nth_mem hk))) _
  have hjz : (joinB (wordsL c (l.take k))).size ≤ 8 * k := by
    have := joinB_size (wordsL c (l.take k)) 7 (words_len hg fun a ha => h a (List.mem_of_mem_take ha))
    simp only [wordsL, List.length_map, List.length_take] at this
    have e : min k l.length = k := by omega
    rw [e] at this; exact this
  have e1 : (⟨#[32]⟩ : ByteArray).size = 1 := rfl
  have e3 : (joinB (wordsL c (l.take k)) ++ ⟨#[32]⟩).size = (joinB (wordsL c (l.take k))).size + 1 := by rw [ByteArray.size_append]; rfl
  have hnx : k < l.length → wordsL c (l.take (k + 1)) = wordsL c (l.take k) ++ [wordB c.signals (nth l k).sig (nth l k).up] := fun hk => by
    rw [take_nth hk]; simp [wordsL, wordA]
  have hnx2 : k < l.length → (wordB c.signals (nth l k).sig (nth l k).up).size ≤ 7 := hwz
  repeat' (first | refine goZ ?_ | refine R_callZ rfl (l6Word_f c (nth l k) (hO (by omega))) rfl rfl rfl ?_ | refine R_callvZ rfl (l6Word_f c (nth l k) (hO (by omega))) rfl rfl rfl rfl ?_ | refine D_callZ rfl (l6Word_f c (nth l k) (hO (by omega))) rfl rfl rfl ?_ | ((first | refine R_cond rfl (fun hq => ?_) fun hq => ?_ | refine R_guardT rfl rfl rfl (fun hq => ?_) fun hq => ?_ | refine R_guardF rfl rfl rfl (fun hq => ?_) fun hq => ?_ | refine D_guardT rfl rfl rfl (fun hq => ?_) fun hq => ?_ | refine D_guardF rfl rfl rfl (fun hq => ?_) fun hq => ?_) <;> (try rw [hq]) <;> first | have hp := of_decide_eq_true hq | have hp := of_decide_eq_false hq | have hp := of_decide_eq_false (not_t hq) | have hp := of_decide_eq_true (not_f hq) | have hp := hq))
  · refine ⟨k + 1, by omega, by omega, ?_⟩
    rw [hnx (by omega), joinB_snoc, if_neg (fun h0 => by have h1 := congrArg List.length h0; simp only [wordsL, List.length_map, List.length_take, List.length_nil] at h1; omega)]
    exact weakZ _
  · refine ⟨k + 1, by omega, by omega, ?_⟩
    have ek : k = 0 := by omega
    subst ek
    rw [hnx (by omega), joinB_snoc, if_pos (by simp [wordsL])]
    have e0 : ∀ w : ByteArray, joinB (wordsL c (l.take 0)) ++ w = w := fun w => by
      rw [List.take_zero, show wordsL c [] = [] from rfl, joinB_nil]; exact ByteArray.empty_append
    rw [e0]
    exact weakZ _
  · exact ret_lit rfl (by rw [List.take_of_length_le (by omega)])

def atK (l : List ArcD) (k : Nat) : Int := if k = 0 then 0 else (nth l (k - 1)).dst
def okP (c : SGraph) (l : List ArcD) (k : Nat) : Bool := decide ((nth l k).src = atK l k) && decide (nth l k ∈ c.arcs)
def okA (c : SGraph) (l : List ArcD) : Bool := (List.range l.length).all (okP c l)
theorem okA_no {c : SGraph} {l : List ArcD} {k : Nat} (hk : k < l.length) (h : okP c l k = false) : okA c l = false := List.all_eq_false.2 ⟨k, List.mem_range.2 hk, by rw [h]; simp⟩
theorem okA_yes {c : SGraph} {l : List ArcD} {k : Nat} (hk : ¬ k < l.length) (h : ∀ j, j < k → okP c l j = true) : okA c l = true := List.all_eq_true.2 fun j hj => h j (by have := List.mem_range.1 hj; omega)
theorem okA_mem {c : SGraph} {l : List ArcD} (h : okA c l = true) : ∀ a ∈ l, a ∈ c.arcs := by
  intro a ha
  obtain ⟨j, hj, rfl⟩ := List.getElem_of_mem ha
  have := List.all_eq_true.1 h j (List.mem_range.2 hj)
  simp only [okP, Bool.and_eq_true, decide_eq_true_eq] at this
  rw [nth_get hj] at this; exact this.2
noncomputable def ftB (c : SGraph) (l : List ArcD) : Bool := goodSG c && (decide (l.length ≤ 4000) && okA c l)
noncomputable def ftS (c : SGraph) (l : List ArcD) : ByteArray := if ftB c l then joinB (wordsL c l) else ⟨#[]⟩
theorem ftS_no {c : SGraph} {l : List ArcD} (h : ftB c l = false) : ftS c l = ⟨#[]⟩ := by simp [ftS, h]

set_option maxHeartbeats 1600000 in
theorem FormatTrace_f (c : SGraph) (l : List ArcD) : Fn Try.prog 44 [.agg (dSGraph c), .sh 4 (l.map dArcD)] (.tup [.lit (.string (ftS c l)), .lit (.bool (ftB c l))]) [] := by
  refine Fn_of Try.func44 rfl (by kernel_rfl) rfl rfl ?_
  intro w0 A hin
  have hz := len_dArcD l
  have hV := IsValidStateGraph_f c
  cases hg : goodSG c <;> rw [hg] at hV
  · have hn : ftB c l = false := by simp [ftB, hg]
    repeat' (first | refine goZ ?_ | refine R_callZ rfl (hV) rfl rfl rfl ?_ | refine R_callvZ rfl (hV) rfl rfl rfl rfl ?_ | refine D_callZ rfl (hV) rfl rfl rfl ?_ | ((first | refine R_cond rfl (fun hq => ?_) fun hq => ?_ | refine R_guardT rfl rfl rfl (fun hq => ?_) fun hq => ?_ | refine R_guardF rfl rfl rfl (fun hq => ?_) fun hq => ?_ | refine D_guardT rfl rfl rfl (fun hq => ?_) fun hq => ?_ | refine D_guardF rfl rfl rfl (fun hq => ?_) fun hq => ?_) <;> (try rw [hq]) <;> first | have hp := of_decide_eq_true hq | have hp := of_decide_eq_false hq | have hp := of_decide_eq_false (not_t hq) | have hp := of_decide_eq_true (not_f hq) | have hp := hq))
    exact ret_lit2 rfl (by rw [ftS_no hn]) (by rw [hn])
  have hlen := goodSG_len hg
  repeat' (first | refine goZ ?_ | refine R_callZ rfl (hV) rfl rfl rfl ?_ | refine R_callvZ rfl (hV) rfl rfl rfl rfl ?_ | refine D_callZ rfl (hV) rfl rfl rfl ?_ | ((first | refine R_cond rfl (fun hq => ?_) fun hq => ?_ | refine R_guardT rfl rfl rfl (fun hq => ?_) fun hq => ?_ | refine R_guardF rfl rfl rfl (fun hq => ?_) fun hq => ?_ | refine D_guardT rfl rfl rfl (fun hq => ?_) fun hq => ?_ | refine D_guardF rfl rfl rfl (fun hq => ?_) fun hq => ?_) <;> (try rw [hq]) <;> first | have hp := of_decide_eq_true hq | have hp := of_decide_eq_false hq | have hp := of_decide_eq_false (not_t hq) | have hp := of_decide_eq_true (not_f hq) | have hp := hq))
  · have hn : ftB c l = false := by rw [ftB, decide_eq_false (show ¬ l.length ≤ 4000 by omega), Bool.false_and, Bool.and_false]
    exact ret_lit2 rfl (by rw [ftS_no hn]) (by rw [hn])
  refine W_loop (fun k : Nat => ⟨_, [(2, .ptr 0 0), (6, .own 1), (7, .lit (.int .i64 (atK l k))), (19, .sh 4 (l.map dArcD)), (20, .lit (.int .i64 l.length)), (21, .lit (.int .i64 k))], [.cells 35 (dSGraph c), .arr 9 1 (strs (wordsL c (l.take k))) true]⟩) (fun k => k ≤ l.length ∧ ∀ j, j < k → okP c l j = true) (fun k => l.length - k) 0 ⟨Nat.zero_le _, by omega⟩ (by rw [← hz]; exact weakZ []) ?_
  rintro k ⟨hk, hj⟩
  have hb1 : (wordsL c (l.take k)).length ≤ k := by simp [wordsL]; omega
  have hO : nth l k ∈ c.arcs → WordOk c.signals (nth l k).sig := fun h => words_ok hg _ h
  have hJ : ¬ k < l.length → ∀ w ∈ wordsL c (l.take k), w.size ≤ 1000 := fun h w hw => by
    rw [List.take_of_length_le (by omega)] at hw
    have := words_len hg (okA_mem (okA_yes h hj)) w hw; omega
  have hat : atK l (k + 1) = (nth l k).dst := by simp [atK]
  repeat' (first | refine goZ ?_ | refine goH ?_ | refine H_two (by exact rfl) (by exact rfl) (by exact rfl) (by exact rfl) (by exact rfl) ?_ ?_ | refine H_three (by exact rfl) (by exact rfl) (by exact rfl) (by exact rfl) (by exact rfl) (by exact rfl) (by exact rfl) ?_ ?_ ?_  | refine R_callZ rfl (Contains_ArcD_f _ _) rfl rfl rfl ?_ | refine R_callZ rfl (edgeText_f c.signals ⟨(nth l k).sig, (nth l k).up⟩ (hO (by assumption))) rfl rfl rfl ?_ | refine R_callZ rfl (Join_f (wordsL c (l.take k)) (by omega) (hJ (by omega))) rfl rfl rfl ?_ | refine R_callvZ rfl (Contains_ArcD_f _ _) rfl rfl rfl rfl ?_ | refine R_callvZ rfl (edgeText_f c.signals ⟨(nth l k).sig, (nth l k).up⟩ (hO (by assumption))) rfl rfl rfl rfl ?_ | refine R_callvZ rfl (Join_f (wordsL c (l.take k)) (by omega) (hJ (by omega))) rfl rfl rfl rfl ?_ | refine D_callZ rfl (Contains_ArcD_f _ _) rfl rfl rfl ?_ | refine D_callZ rfl (edgeText_f c.signals ⟨(nth l k).sig, (nth l k).up⟩ (hO (by assumption))) rfl rfl rfl ?_ | refine D_callZ rfl (Join_f (wordsL c (l.take k)) (by omega) (hJ (by omega))) rfl rfl rfl ?_ | ((first | refine R_cond rfl (fun hq => ?_) fun hq => ?_ | refine R_guardT rfl rfl rfl (fun hq => ?_) fun hq => ?_ | refine R_guardF rfl rfl rfl (fun hq => ?_) fun hq => ?_ | refine D_guardT rfl rfl rfl (fun hq => ?_) fun hq => ?_ | refine D_guardF rfl rfl rfl (fun hq => ?_) fun hq => ?_) <;> (try rw [hq]) <;> first | have hp := of_decide_eq_true hq | have hp := of_decide_eq_false hq | have hp := of_decide_eq_false (not_t hq) | have hp := of_decide_eq_true (not_f hq) | have hp := hq) | refine W_held mixed [(9, 1, .int .i64 (nth l k).sig), (9, 2, .bool (nth l k).up), (9, 3, .int .i64 (nth l k).dst)] ?_)
  · have hn : ftB c l = false := by rw [ftB, okA_no (show k < l.length by omega) (by rw [okP, Bool.and_eq_false_iff, decide_eq_false_iff_not, decide_eq_false_iff_not]; first | exact Or.inr hp | exact Or.inl hp), Bool.and_false, Bool.and_false]
    exact ret_lit2 rfl (by rw [ftS_no hn]) (by rw [hn])
  · refine ⟨k + 1, ⟨by omega, fun j hj' => ?_⟩, by omega, ?_⟩
    · by_cases e : j = k
      · rw [e, okP, Bool.and_eq_true, decide_eq_true_eq, decide_eq_true_eq]; exact ⟨by assumption, hp⟩
      · exact hj j (by omega)
    · have e : strs (wordsL c (l.take (k + 1))) = strs (wordsL c (l.take k)) ++ [[.lit (.string (wordB c.signals (nth l k).sig (nth l k).up))]] := by
        rw [take_nth (show k < l.length by omega)]; simp [wordsL, wordA, strs]
      rw [e, hat]
      exact weakZ _
  · have hn : ftB c l = false := by rw [ftB, okA_no (show k < l.length by omega) (by rw [okP, Bool.and_eq_false_iff, decide_eq_false_iff_not, decide_eq_false_iff_not]; first | exact Or.inr hp | exact Or.inl hp), Bool.and_false, Bool.and_false]
    exact ret_lit2 rfl (by rw [ftS_no hn]) (by rw [hn])
  · have hy : ftB c l = true := by rw [ftB, hg, okA_yes (by omega) hj, decide_eq_true (by omega)]; rfl
    exact ret_lit2 rfl (by rw [ftS, if_pos hy, List.take_of_length_le (by omega)]) (by rw [hy])
end Go.Proofs.Ytcmedjlpaondjaa
