/- Names of transitions: what the reference's and the program's functions hand back. No condition. -/
import Derived.Test.YtkegeacjalechaaDoorUnu
import Derived.Test.YtkegeacjalechaaDoorLayItoa
import Derived.Lib.ItoaNum
import Derived.Test.YtkegeacjalechaaDoorDrw
import Derived.Test.YtkegeacjalechaaDoorAbsY
set_option linter.unusedSimpArgs false
set_option linter.unusedVariables false
set_option maxHeartbeats 2000000
namespace Go.Proofs.YtkegeacjalechaaDoor
open Go.ChangeShapes Go.WideShapes Go.ChangeAt Go.RowKit

/-! ### Numbers as text -/
def numL (i : Nat) : List UInt8 := if i < 10 then [UInt8.ofNat (48 + i)] else [UInt8.ofNat (48 + i / 10), UInt8.ofNat (48 + i % 10)]
def numB (i : Nat) : ByteArray := ⟨(numL i).toArray⟩
theorem decDigits_num {i : Nat} (h : i < 100) : Go.Lib.decDigits i = numL i := by
  unfold Go.Lib.decDigits numL
  by_cases h1 : i < 10
  · rw [dif_pos h1, if_pos h1]
  · rw [dif_neg h1, if_neg h1]
    unfold Go.Lib.decDigits
    rw [dif_pos (by omega)]; rfl
theorem numB_size (i : Nat) : (numB i).size ≤ 2 := by
  unfold numB numL
  split <;> simp [ByteArray.size]
theorem Itoa_f (i : Nat) (hi : i < 100) : Fn Tryd.prog 59 [.lit (.int .i64 i)] (.lit (.string (numB i))) [] := by
  refine Fn.of_lit (show litOk (.string (numB i)) from by have := numB_size i; show (numB i).size ≤ 9223372036854775807; omega) (plain_of Tryd.func59 (by kernel_rfl) (by kernel_rfl)) fun w us hus => ?_
  cases hus with
  | cons h1 h2 =>
    cases h2
    obtain ⟨rfl, _⟩ := h1.lit_inv
    refine (Go.Proofs.Any.strconv_Itoa_small layItoa i hi w).mono ?_
    rintro e w' ⟨rfl, rfl⟩
    exact ⟨by rw [decDigits_num hi]; rfl, Ext.refl _⟩
section
variable {P : Program} {tab : Nat → Option TI} {w0 : World} {A : Nat → Prop} {n : Nat} {sl : List (Nat × D)} {hp : List Blk} {ops : Array Oper} {rest : List Oper} {K : St → Prop} {dst : Tmp} {ty : TypeId} {pos : String} {after : Array Edge}
/-- A slice of one byte that is written out, as text. -/
theorem R_byteStr (hT : TabOk P tab) {x : Operand} {i : Nat} {b : Int} {T t s e : TypeId} {dp agg agg' agg'' : Bool} {size size' size'' bytes bytes' bytes'' : Nat} {zero zero' zero'' : List Value} (hx : evD (look sl) x = .own i) (hb : hp[i]? = some (.arr T 1 [[.lit (.int .u8 b)]] dp))
    (hs : tab s = some ⟨.sl e, agg, size, bytes, zero⟩) (he : tab e = some ⟨.int .u8, agg', size', bytes', zero'⟩) (ht : tab t = some ⟨.str, agg'', size'', bytes'', zero''⟩) (hd : Nat.blt dst n = true)
    (hK : WO P w0 A ops rest ⟨n, (dst, .lit (.string ⟨#[UInt8.ofNat b.toNat]⟩)) :: sl, hp⟩ K) : WO P w0 A ops (⟨some dst, .convert s t x, ty, pos, after, none⟩ :: rest) ⟨n, sl, hp⟩ K := by
  refine ⟨fun ms a w hr Q hq => ?_⟩
  refine wpList_plain rfl fun Kn hKn => ?_
  obtain ⟨ek, hik, e2, _⟩ := (hr.ev_at hx).own_inv
  obtain ⟨us, bs, o1, o2, o3, o4, o5⟩ := hr.ents i _ ek hb hik
  obtain rfl : us = [.int .u8 b] := by
    cases o3 with
    | cons h1 h2 =>
      cases h2
      cases h1
      rfl
  obtain ⟨inf, td, z, q1, q2, q3, q4, q5, q6, _⟩ := hT.get hs
  obtain ⟨inf', td', z', g1, g2, g3, g4, g5, g6, _⟩ := hT.get he
  obtain ⟨inf'', td'', z'', k1, k2, k3, k4, k5, k6, _⟩ := hT.get ht
  have htd := TK.sl_inv q4
  subst htd
  have htd' := TK.int_inv g4
  subst htd'
  have htd'' := TK.str_inv k4
  subst htd''
  obtain ⟨hl, ⟨hv, h0⟩ | ⟨g, cap, cur, hv, hg, hh1, c1, c2, c3, c4⟩⟩ := o1
  · simp at h0
  have hcell : w.cell? ⟨g, 0, none⟩ = some (.int .u8 b) := by
    have : cur.toList[0]? = some (.int .u8 b) := by
      have h1 : (cur.toList.take (1 * 1))[0]? = some (.int .u8 b) := by
        have c4' : cur.toList.take (1 * 1) = [.int .u8 b] := c4
        rw [c4']; rfl
      rw [List.getElem?_take] at h1
      simpa using h1
    simp [World.cell?, hh1]
    simpa using this
  have hrun0 : (convert s t ek.v).run P w = .ok (.string ⟨#[UInt8.ofNat b.toNat]⟩) w := by
    rw [hv]
    show (convert s t (.slice (some ⟨g, 0, none⟩) 1 cap)).run P w = _
    rw [run_convert_bytes_string _ _ _ e _ _ _ q2 g2 k2, run_bytesToString (ns := [b])]
    · rfl
    · simp [go_sem, hcell]
  have hrun : (execOp a.eval ⟨some dst, .convert s t x, ty, pos, after, none⟩).run P w = .ok (.value (.string ⟨#[UInt8.ofNat b.toNat]⟩)) w := by
    simp only [execOp, e2, Sem.run_bind, hrun0, Result.andThen]; rfl
  exact upon_value hrun (hKn _ _ (hK.run ms _ w (Rel.put (t := some dst) hr (VX.of_lit (show litOk (.string ⟨#[UInt8.ofNat b.toNat]⟩) from by show (1 : Nat) ≤ 9223372036854775807; omega)) (dstOk_all (s := ⟨n, _, _⟩) (t := some dst) hd)) Q hq))
end
theorem numB_snoc {i : Nat} (h : ¬ i < 10) (h2 : i < 100) : numB (i / 10) ++ ⟨#[UInt8.ofNat (48 + i % 10)]⟩ = numB i := by
  unfold numB numL
  rw [if_pos (show i / 10 < 10 by omega), if_neg h]; rfl
theorem l1Num_one (i : Nat) (hi : i < 10) : Fn Tryd.prog 49 [.lit (.int .i64 i)] (.lit (.string (numB i))) [] := by
  refine Fn_of Tryd.func49 rfl (by kernel_rfl) rfl rfl ?_
  intro w0 A hin
  have e48 : (48 + (i : Int)).toNat = 48 + i := by omega
  have hw : IntKind.u8.wrap (48 + (i : Int)) = 48 + (i : Int) := wrap_u8 (by omega)
  repeat' (first | refine goZ ?_ | refine R_byteStr tabOk rfl rfl rfl rfl rfl rfl ?_ | ((first | refine R_cond rfl (fun hq => ?_) fun hq => ?_ | refine R_guardT rfl rfl rfl (fun hq => ?_) fun hq => ?_ | refine R_guardF rfl rfl rfl (fun hq => ?_) fun hq => ?_ | refine D_guardT rfl rfl rfl (fun hq => ?_) fun hq => ?_ | refine D_guardF rfl rfl rfl (fun hq => ?_) fun hq => ?_) <;> (try rw [hq]) <;> first | have hp := of_decide_eq_true hq | have hp := of_decide_eq_false hq | have hp := of_decide_eq_false (not_t hq) | have hp := of_decide_eq_true (not_f hq) | have hp := hq))
  all_goals first
    | (exfalso; omega)
    | exact ret_lit rfl (by rw [numB, numL, if_pos hi, e48])
theorem l1Num_f (i : Nat) (hi : i < 100) : Fn Tryd.prog 49 [.lit (.int .i64 i)] (.lit (.string (numB i))) [] := by
  by_cases h1 : i < 10
  · exact l1Num_one i h1
  refine Fn_of Tryd.func49 rfl (by kernel_rfl) rfl rfl ?_
  intro w0 A hin
  have hN := l1Num_one (i / 10) (by omega)
  have hs := numB_size (i / 10)
  have hq10 : (i : Int).tdiv 10 = ((i / 10 : Nat) : Int) := rfl
  have hr10 : (i : Int).tmod 10 = ((i % 10 : Nat) : Int) := rfl
  have hi0 : ¬ ((i : Int) < 10) := by omega
  have hw : IntKind.u8.wrap (48 + (i : Int) % 10) = 48 + (i : Int) % 10 := wrap_u8 (by omega)
  have e1b : (⟨#[UInt8.ofNat (48 + (i : Int) % 10).toNat]⟩ : ByteArray).size = 1 := rfl
  have e48 : (48 + (i : Int) % 10).toNat = 48 + i % 10 := by omega
  have hm10 : i % 10 < 10 := Nat.mod_lt _ (by omega)
  repeat' (first | refine goZ ?_ | refine goH ?_ | refine H_two (by exact rfl) (by exact rfl) (by exact rfl) (by exact rfl) (by exact rfl) ?_ ?_ | refine H_three (by exact rfl) (by exact rfl) (by exact rfl) (by exact rfl) (by exact rfl) (by exact rfl) (by exact rfl) ?_ ?_ ?_  | refine R_callZ rfl (hN) rfl rfl rfl ?_ | refine R_callvZ rfl (hN) rfl rfl rfl rfl ?_ | refine R_byteStr tabOk rfl rfl rfl rfl rfl rfl ?_ | refine D_callZ rfl (hN) rfl rfl rfl ?_ | ((first | refine R_cond rfl (fun hq => ?_) fun hq => ?_ | refine R_guardT rfl rfl rfl (fun hq => ?_) fun hq => ?_ | refine R_guardF rfl rfl rfl (fun hq => ?_) fun hq => ?_ | refine D_guardT rfl rfl rfl (fun hq => ?_) fun hq => ?_ | refine D_guardF rfl rfl rfl (fun hq => ?_) fun hq => ?_) <;> (try rw [hq]) <;> first | have hp := of_decide_eq_true hq | have hp := of_decide_eq_false hq | have hp := of_decide_eq_false (not_t hq) | have hp := of_decide_eq_true (not_f hq) | have hp := hq) | refine W_held mixed [] ?_)
  all_goals first
    | (exfalso; omega)
    | exact ret_lit rfl (by rw [e48, numB_snoc h1 hi])

/-! ### Labels as text -/
/-- The transitions of a label, in order. -/
def labP (s : Stg) (l : Lab) (t : Nat) : Bool := decide (nth s.labels t = l)
def labL (s : Stg) (l : Lab) : List Int := pickN (labP s l) s.labels.length
theorem labelled_f (s : Stg) (l : Lab) (hl : s.labels.length ≤ 24) : Fn Tryd.prog 58 [.agg (dStg s), .agg (dLab l)] (.own 0) [.arr 3 1 (ints (labL s l)) true] := by
  refine Fn_of Tryd.func58 rfl (by kernel_rfl) rfl rfl ?_
  intro w0 A hin
  have hz := len_dLab s.labels
  have hlen := pickN_len (labP s l)
  repeat' (first | refine goZ ?_ | ((first | refine R_cond rfl (fun hq => ?_) fun hq => ?_ | refine R_guardT rfl rfl rfl (fun hq => ?_) fun hq => ?_ | refine R_guardF rfl rfl rfl (fun hq => ?_) fun hq => ?_ | refine D_guardT rfl rfl rfl (fun hq => ?_) fun hq => ?_ | refine D_guardF rfl rfl rfl (fun hq => ?_) fun hq => ?_) <;> (try rw [hq]) <;> first | have hp := of_decide_eq_true hq | have hp := of_decide_eq_false hq | have hp := of_decide_eq_false (not_t hq) | have hp := of_decide_eq_true (not_f hq) | have hp := hq))
  refine W_loop (fun k : Nat => ⟨_, [(3, .ptr 1 0), (5, .own 2), (10, .sh 2 (s.labels.map dLab)), (11, .lit (.int .i64 s.labels.length)), (12, .lit (.int .i64 k))], [.cells 38 (dStg s), .cells 66 (dLab l), .arr 3 1 (ints (pickN (labP s l) k)) true]⟩) (fun k => k ≤ s.labels.length) (fun k => s.labels.length - k) 0 (Nat.zero_le _) (weakZ []) ?_
  intro k hk
  have hk2 := hlen k
  repeat' (first | refine goZ ?_ | refine R_eqs (eq_Lab (nth s.labels k) l) rfl rfl rfl ?_ | ((first | refine R_cond rfl (fun hq => ?_) fun hq => ?_ | refine R_guardT rfl rfl rfl (fun hq => ?_) fun hq => ?_ | refine R_guardF rfl rfl rfl (fun hq => ?_) fun hq => ?_ | refine D_guardT rfl rfl rfl (fun hq => ?_) fun hq => ?_ | refine D_guardF rfl rfl rfl (fun hq => ?_) fun hq => ?_) <;> (try rw [hq]) <;> first | have hp := of_decide_eq_true hq | have hp := of_decide_eq_false hq | have hp := of_decide_eq_false (not_t hq) | have hp := of_decide_eq_true (not_f hq) | have hp := hq))
  · refine ⟨k + 1, by omega, by omega, ?_⟩
    simp only [pickN_yes (p := labP s l) (k := k) hq, ints_snoc]
    exact weakZ _
  · refine ⟨k + 1, by omega, by omega, ?_⟩
    simp only [pickN_no (p := labP s l) (k := k) hq]
    exact weakZ _
  · exact ret_own rfl rfl (by rw [labL, show k = s.labels.length by omega])
def wordB (ss : List Sig) (sig : Int) (up : Bool) : ByteArray := if sig < 0 then ⟨#[126]⟩ else if up then (nth ss sig.toNat).name ++ ⟨#[43]⟩ else (nth ss sig.toNat).name ++ ⟨#[45]⟩
structure WordOk (ss : List Sig) (sig : Int) : Prop where
  lt : sig < ss.length
  nm : ∀ s ∈ ss, s.name.size ≤ 6
theorem wordB_size {ss : List Sig} {sig : Int} (h : WordOk ss sig) (up : Bool) : (wordB ss sig up).size ≤ 7 := by
  unfold wordB
  split
  · decide
  · have := h.nm _ (nth_mem (show sig.toNat < ss.length by have := h.lt; omega))
    have e1 : (⟨#[43]⟩ : ByteArray).size = 1 := rfl
    have e2 : (⟨#[45]⟩ : ByteArray).size = 1 := rfl
    split <;> rw [ByteArray.size_append] <;> omega
theorem edgeText_f (ss : List Sig) (l : Lab) (h : WordOk ss l.sig) : Fn Tryd.prog 36 [.sh 2 (ss.map dSig), .agg (dLab l)] (.lit (.string (wordB ss l.sig l.up))) [] := by
  refine Fn_of Tryd.func36 rfl (by kernel_rfl) rfl rfl ?_
  intro w0 A hin
  have hz := len_dSig ss
  have hlt := h.lt
  have hs : 0 ≤ l.sig → (nth ss l.sig.toNat).name.size ≤ 6 := fun h0 => h.nm _ (nth_mem (by omega))
  have e1 : (⟨#[43]⟩ : ByteArray).size = 1 := rfl
  have e2 : (⟨#[45]⟩ : ByteArray).size = 1 := rfl
  cases hu : l.up
  · repeat' (first | refine goZ ?_ | ((first | refine R_cond rfl (fun hq => ?_) fun hq => ?_ | refine R_guardT rfl rfl rfl (fun hq => ?_) fun hq => ?_ | refine R_guardF rfl rfl rfl (fun hq => ?_) fun hq => ?_ | refine D_guardT rfl rfl rfl (fun hq => ?_) fun hq => ?_ | refine D_guardF rfl rfl rfl (fun hq => ?_) fun hq => ?_) <;> (try rw [hq]) <;> first | have hp := of_decide_eq_true hq | have hp := of_decide_eq_false hq | have hp := of_decide_eq_false (not_t hq) | have hp := of_decide_eq_true (not_f hq) | have hp := hq))
    · exact ret_lit rfl (by rw [wordB, if_pos hp])
    · exact ret_lit rfl (by rw [wordB, if_neg hp, if_neg (by simp)])
  · repeat' (first | refine goZ ?_ | ((first | refine R_cond rfl (fun hq => ?_) fun hq => ?_ | refine R_guardT rfl rfl rfl (fun hq => ?_) fun hq => ?_ | refine R_guardF rfl rfl rfl (fun hq => ?_) fun hq => ?_ | refine D_guardT rfl rfl rfl (fun hq => ?_) fun hq => ?_ | refine D_guardF rfl rfl rfl (fun hq => ?_) fun hq => ?_) <;> (try rw [hq]) <;> first | have hp := of_decide_eq_true hq | have hp := of_decide_eq_false hq | have hp := of_decide_eq_false (not_t hq) | have hp := of_decide_eq_true (not_f hq) | have hp := hq))
    · exact ret_lit rfl (by rw [wordB, if_pos hp])
    · exact ret_lit rfl (by rw [wordB, if_neg hp, if_pos rfl])
theorem l2Word_f (s : Stg) (l : Lab) (h : WordOk s.signals l.sig) : Fn Tryd.prog 48 [.agg (dStg s), .agg (dLab l)] (.lit (.string (wordB s.signals l.sig l.up))) [] := by
  refine Fn_of Tryd.func48 rfl (by kernel_rfl) rfl rfl ?_
  intro w0 A hin
  have hz := len_dSig s.signals
  have hlt := h.lt
  have hs : 0 ≤ l.sig → (nth s.signals l.sig.toNat).name.size ≤ 6 := fun h0 => h.nm _ (nth_mem (by omega))
  have e1 : (⟨#[43]⟩ : ByteArray).size = 1 := rfl
  have e2 : (⟨#[45]⟩ : ByteArray).size = 1 := rfl
  cases hu : l.up
  · repeat' (first | refine goZ ?_ | ((first | refine R_cond rfl (fun hq => ?_) fun hq => ?_ | refine R_guardT rfl rfl rfl (fun hq => ?_) fun hq => ?_ | refine R_guardF rfl rfl rfl (fun hq => ?_) fun hq => ?_ | refine D_guardT rfl rfl rfl (fun hq => ?_) fun hq => ?_ | refine D_guardF rfl rfl rfl (fun hq => ?_) fun hq => ?_) <;> (try rw [hq]) <;> first | have hp := of_decide_eq_true hq | have hp := of_decide_eq_false hq | have hp := of_decide_eq_false (not_t hq) | have hp := of_decide_eq_true (not_f hq) | have hp := hq))
    · exact ret_lit rfl (by rw [wordB, if_pos hp])
    · exact ret_lit rfl (by rw [wordB, if_neg hp, if_neg (by simp)])
  · repeat' (first | refine goZ ?_ | ((first | refine R_cond rfl (fun hq => ?_) fun hq => ?_ | refine R_guardT rfl rfl rfl (fun hq => ?_) fun hq => ?_ | refine R_guardF rfl rfl rfl (fun hq => ?_) fun hq => ?_ | refine D_guardT rfl rfl rfl (fun hq => ?_) fun hq => ?_ | refine D_guardF rfl rfl rfl (fun hq => ?_) fun hq => ?_) <;> (try rw [hq]) <;> first | have hp := of_decide_eq_true hq | have hp := of_decide_eq_false hq | have hp := of_decide_eq_false (not_t hq) | have hp := of_decide_eq_true (not_f hq) | have hp := hq))
    · exact ret_lit rfl (by rw [wordB, if_pos hp])
    · exact ret_lit rfl (by rw [wordB, if_neg hp, if_pos rfl])

/-! ### Names of transitions -/
theorem wordOk_of {s : Stg} (hg : goodStg s = true) (t : Nat) (ht : t < s.labels.length) : WordOk s.signals (nth s.labels t).sig := by
  have h := hg
  simp only [goodStg, sigsB, Bool.and_eq_true, decide_eq_true_eq] at h
  obtain ⟨_, ⟨h2, h3⟩, _, h4⟩ := h
  have hl := List.all_eq_true.1 h4 _ (nth_mem ht)
  refine ⟨?_, fun x hx => ?_⟩
  · simp only [labB, Bool.or_eq_true, Bool.and_eq_true, decide_eq_true_eq] at hl; omega
  · obtain ⟨j, hj, rfl⟩ := List.getElem_of_mem hx
    have := (h2 j hj).1
    rw [nth_get hj] at this
    simp only [sigOk, nameB, Bool.and_eq_true, decide_eq_true_eq] at this
    omega
/-- How many transitions ahead of t bear its label. -/
def aheadN (s : Stg) (t : Nat) : Nat := (pickN (labP s (nth s.labels t)) t).length
def tnmB (s : Stg) (t : Nat) : ByteArray := let w := wordB s.signals (nth s.labels t).sig (nth s.labels t).up; if 1 < (labL s (nth s.labels t)).length then w ++ (⟨#[47]⟩ ++ numB (aheadN s t + 1)) else w
theorem pickN_ix {p : Nat → Bool} {t n : Nat} (h : t < n) (hp : p t = true) : findIx (fun y => decide ((t : Int) = y)) (pickN p n) = (pickN p t).length := by
  have e : ∀ m, t < m → ∃ r, pickN p m = pickN p t ++ (t : Int) :: r := by
    intro m
    induction m with
    | zero => omega
    | succ m ih =>
      intro hm
      rcases Nat.lt_or_ge t m with h | h
      · obtain ⟨r, e⟩ := ih h
        cases hq : p m
        · exact ⟨r, by rw [pickN_no hq, e]⟩
        · exact ⟨r ++ [(m : Int)], by rw [pickN_yes hq, e]; simp⟩
      · obtain rfl : t = m := by omega
        exact ⟨[], by rw [pickN_yes hp]⟩
  obtain ⟨r, e⟩ := e n h
  have hlt : ∀ x ∈ pickN p t, x < (t : Int) := by
    intro x hx
    simp only [pickN, List.mem_map, List.mem_filter, List.mem_range] at hx
    obtain ⟨i, ⟨h1, _⟩, rfl⟩ := hx
    omega
  rw [e]
  refine findIx_at _ (by simp) (fun j hj => ?_) ?_
  · rw [nth_get (by simp; omega), List.getElem_append_left hj]
    have := hlt _ (List.getElem_mem hj)
    simp; omega
  · rw [nth_get (by simp)]
    simp
theorem tnmB_size {s : Stg} (hg : goodStg s = true) {t : Nat} (ht : t < s.labels.length) : (tnmB s t).size ≤ 10 := by
  have h1 := wordB_size (wordOk_of hg t ht) (nth s.labels t).up
  have h2 := numB_size (aheadN s t + 1)
  have e1 : (⟨#[47]⟩ : ByteArray).size = 1 := rfl
  unfold tnmB
  simp only
  split
  · rw [ByteArray.size_append, ByteArray.size_append]; omega
  · omega
theorem slash_size (i : Nat) : ((⟨#[47]⟩ : ByteArray) ++ numB i).size ≤ 3 := by
  have := numB_size i
  have e1 : (⟨#[47]⟩ : ByteArray).size = 1 := rfl
  rw [ByteArray.size_append]; omega
theorem transitionName_f (s : Stg) (t : Nat) (hg : goodStg s = true) (ht : t < s.labels.length) : Fn Tryd.prog 29 [.agg (dStg s), .lit (.int .i64 t)] (.lit (.string (tnmB s t))) [] := by
  refine Fn_of Tryd.func29 rfl (by kernel_rfl) rfl rfl ?_
  intro w0 A hin
  have hgl := goodStg_len hg
  have hz := len_dLab s.labels
  have hlz := len_ints (labL s (nth s.labels t))
  have hW := wordOk_of hg t ht
  have hE := edgeText_f s.signals (nth s.labels t) hW
  have hL := labelled_f s (nth s.labels t) (by omega)
  have hI := Index_Int_f (labL s (nth s.labels t)) t
  have hix : findIx (fun y => decide ((t : Int) = y)) (labL s (nth s.labels t)) = (aheadN s t : Int) := pickN_ix ht (by simp [labP])
  rw [hix] at hI
  have hal : aheadN s t ≤ t := pickN_len _ _
  have hN := Itoa_f (aheadN s t + 1) (by omega)
  have hws := wordB_size hW (nth s.labels t).up
  have hns := numB_size (aheadN s t + 1)
  have e1 : (⟨#[47]⟩ : ByteArray).size = 1 := rfl
  have e2 := slash_size (aheadN s t + 1)
  repeat' (first | refine goZ ?_ | refine R_callZ rfl (hE) rfl rfl rfl ?_ | refine R_callZ rfl (hL) rfl rfl rfl ?_ | refine R_callZ rfl (hI) rfl rfl rfl ?_ | refine R_callZ rfl (hN) rfl rfl rfl ?_ | refine R_callvZ rfl (hE) rfl rfl rfl rfl ?_ | refine R_callvZ rfl (hL) rfl rfl rfl rfl ?_ | refine R_callvZ rfl (hI) rfl rfl rfl rfl ?_ | refine R_callvZ rfl (hN) rfl rfl rfl rfl ?_ | refine D_callZ rfl (hE) rfl rfl rfl ?_ | refine D_callZ rfl (hL) rfl rfl rfl ?_ | refine D_callZ rfl (hI) rfl rfl rfl ?_ | refine D_callZ rfl (hN) rfl rfl rfl ?_ | ((first | refine R_cond rfl (fun hq => ?_) fun hq => ?_ | refine R_guardT rfl rfl rfl (fun hq => ?_) fun hq => ?_ | refine R_guardF rfl rfl rfl (fun hq => ?_) fun hq => ?_ | refine D_guardT rfl rfl rfl (fun hq => ?_) fun hq => ?_ | refine D_guardF rfl rfl rfl (fun hq => ?_) fun hq => ?_) <;> (try rw [hq]) <;> first | have hp := of_decide_eq_true hq | have hp := of_decide_eq_false hq | have hp := of_decide_eq_false (not_t hq) | have hp := of_decide_eq_true (not_f hq) | have hp := hq))
  · exact ret_lit rfl (by simp only [tnmB]; rw [if_pos (by omega)])
  · exact ret_lit rfl (by simp only [tnmB]; rw [if_neg (by omega)])
theorem l2Text_f (s : Stg) (t : Nat) (hg : goodStg s = true) (ht : t < s.labels.length) : Fn Tryd.prog 23 [.agg (dStg s), .lit (.int .i64 t)] (.lit (.string (tnmB s t))) [] := by
  refine Fn_of Tryd.func23 rfl (by kernel_rfl) rfl rfl ?_
  intro w0 A hin
  have hgl := goodStg_len hg
  have hz := len_dLab s.labels
  have hW := wordOk_of hg t ht
  have hE := l2Word_f s (nth s.labels t) hW
  have hal : aheadN s t ≤ t := pickN_len _ _
  have hN := l1Num_f (aheadN s t + 1) (by omega)
  have hws := wordB_size hW (nth s.labels t).up
  have hns := numB_size (aheadN s t + 1)
  have e1 : (⟨#[47]⟩ : ByteArray).size = 1 := rfl
  have e2 := slash_size (aheadN s t + 1)
  have hlen := pickN_len (labP s (nth s.labels t))
  have hal2 : (pickN (labP s (nth s.labels t)) t).length ≤ t := hal
  repeat' (first | refine goZ ?_ | ((first | refine R_cond rfl (fun hq => ?_) fun hq => ?_ | refine R_guardT rfl rfl rfl (fun hq => ?_) fun hq => ?_ | refine R_guardF rfl rfl rfl (fun hq => ?_) fun hq => ?_ | refine D_guardT rfl rfl rfl (fun hq => ?_) fun hq => ?_ | refine D_guardF rfl rfl rfl (fun hq => ?_) fun hq => ?_) <;> (try rw [hq]) <;> first | have hp := of_decide_eq_true hq | have hp := of_decide_eq_false hq | have hp := of_decide_eq_false (not_t hq) | have hp := of_decide_eq_true (not_f hq) | have hp := hq))
  refine W_loop (fun k : Nat => ⟨_, [(1, .lit (.int .i64 t)), (2, .ptr 0 0), (5, .lit (.int .i64 (pickN (labP s (nth s.labels t)) k).length)), (6, .lit (.int .i64 (pickN (labP s (nth s.labels t)) (min k t)).length)), (11, .sh 2 (s.labels.map dLab)), (12, .lit (.int .i64 s.labels.length)), (13, .lit (.int .i64 k))], [.cells 38 (dStg s)]⟩) (fun k => k ≤ s.labels.length) (fun k => s.labels.length - k) 0 (Nat.zero_le _) (weakZ []) ?_
  intro k hk
  have hk2 := hlen k
  have hk3 := hlen (min k t)
  rcases Nat.lt_or_ge k s.labels.length with hlt | hge
  · repeat' (first | refine W_drawAt 6 mixed tabOk rfl rfl rfl ?_ | refine go1 ?_ | refine R_eqs (eq_Lab (nth s.labels k) (nth s.labels t)) rfl rfl rfl ?_ | ((first | refine R_cond rfl (fun hq => ?_) fun hq => ?_ | refine R_guardT rfl rfl rfl (fun hq => ?_) fun hq => ?_ | refine R_guardF rfl rfl rfl (fun hq => ?_) fun hq => ?_ | refine D_guardT rfl rfl rfl (fun hq => ?_) fun hq => ?_ | refine D_guardF rfl rfl rfl (fun hq => ?_) fun hq => ?_) <;> (try rw [hq]) <;> first | have hp := of_decide_eq_true hq | have hp := of_decide_eq_false hq | have hp := of_decide_eq_false (not_t hq) | have hp := of_decide_eq_true (not_f hq) | have hp := hq))
    · have hkt : min (k + 1) t = min k t + 1 := by omega
      have ekt : min k t = k := by omega
      refine ⟨k + 1, by omega, by omega, ?_⟩
      rw [hkt, ekt, pickN_yes (p := labP s (nth s.labels t)) (k := k) (by rw [labP, decide_eq_true_eq]; assumption), List.length_append]
      exact weakZ _
    · have hkt : min (k + 1) t = min k t := by omega
      refine ⟨k + 1, by omega, by omega, ?_⟩
      rw [hkt, pickN_yes (p := labP s (nth s.labels t)) (k := k) (by rw [labP, decide_eq_true_eq]; assumption), List.length_append]
      exact weakZ _
    · have hkt : pickN (labP s (nth s.labels t)) (min (k + 1) t) = pickN (labP s (nth s.labels t)) (min k t) := by
        rcases Nat.lt_or_ge k t with h | h
        · rw [show min (k + 1) t = k + 1 by omega, show min k t = k by omega, pickN_no hq]
        · rw [show min (k + 1) t = min k t by omega]
      refine ⟨k + 1, by omega, by omega, ?_⟩
      rw [hkt, pickN_no (p := labP s (nth s.labels t)) (k := k) hq]
      exact weakZ _
    · exfalso; omega
  · obtain rfl : k = s.labels.length := by omega
    rw [Nat.min_eq_right (Nat.le_of_lt ht)]
    repeat' (first | refine goZ ?_ | refine R_callZ rfl (hE) rfl rfl rfl ?_ | refine R_callZ rfl (hN) rfl rfl rfl ?_ | refine R_callvZ rfl (hE) rfl rfl rfl rfl ?_ | refine R_callvZ rfl (hN) rfl rfl rfl rfl ?_ | refine D_callZ rfl (hE) rfl rfl rfl ?_ | refine D_callZ rfl (hN) rfl rfl rfl ?_ | ((first | refine R_cond rfl (fun hq => ?_) fun hq => ?_ | refine R_guardT rfl rfl rfl (fun hq => ?_) fun hq => ?_ | refine R_guardF rfl rfl rfl (fun hq => ?_) fun hq => ?_ | refine D_guardT rfl rfl rfl (fun hq => ?_) fun hq => ?_ | refine D_guardF rfl rfl rfl (fun hq => ?_) fun hq => ?_) <;> (try rw [hq]) <;> first | have hp := of_decide_eq_true hq | have hp := of_decide_eq_false hq | have hp := of_decide_eq_false (not_t hq) | have hp := of_decide_eq_true (not_f hq) | have hp := hq))
    all_goals first
      | (exfalso; omega)
      | exact ret_lit rfl (by unfold tnmB; rw [if_pos (show 1 < (labL s (nth s.labels t)).length by simp only [labL]; omega)])
      | exact ret_lit rfl (by unfold tnmB; rw [if_neg (show ¬ 1 < (labL s (nth s.labels t)).length by simp only [labL]; omega)])

/-! ### The functions -/
def tnB (s : Stg) (t : Int) : Bool := goodStg s && decide (0 ≤ t ∧ t ≤ (s.labels.length : Int) - 1)
def tnR (s : Stg) (t : Int) : ByteArray := if tnB s t then tnmB s t.toNat else ⟨#[]⟩
def byP (s : Stg) (text : ByteArray) (k : Nat) : Bool := decide (tnmB s k = text)
def byI (s : Stg) (text : ByteArray) : Int := findIx (byP s text) (List.range s.labels.length)
def byB (s : Stg) (text : ByteArray) : Bool := goodStg s && decide (0 ≤ byI s text)
def byR (s : Stg) (text : ByteArray) : Int := if byB s text then byI s text else 0
theorem byI_at {s : Stg} {text : ByteArray} {k : Nat} (hk : k < s.labels.length) (h : ∀ j, j < k → byP s text j = false) (hp : byP s text k = true) : byI s text = k := by
  have e : ∀ j, j < s.labels.length → nth (List.range s.labels.length) j = j := fun j hj => by
    rw [nth_get (by simpa using hj), List.getElem_range]
  refine findIx_at _ (by simpa using hk) (fun j hj => ?_) ?_
  · rw [e j (by omega)]; exact h j hj
  · rw [e k hk]; exact hp
theorem byI_not {s : Stg} {text : ByteArray} (h : ∀ j, j < s.labels.length → byP s text j = false) : byI s text = -1 :=
  findIx_not _ fun x hx => h x (List.mem_range.1 hx)

theorem TransitionName_f (s : Stg) (t : Int) (hs : s.start.size ≤ 1048576) : Fn Tryd.prog 10 [.agg (dStg s), .lit (.int .i64 t)] (.tup [.lit (.string (tnR s t)), .lit (.bool (tnB s t))]) [] := by
  refine Fn_of Tryd.func10 rfl (by kernel_rfl) rfl rfl ?_
  intro w0 A hin
  have hz := len_dLab s.labels
  have ht64 := given_int hin (i := 1) rfl
  have hV := IsValidSTG_f s hs
  cases hg : goodStg s <;> rw [hg] at hV
  · repeat' (first | refine goZ ?_ | refine R_callZ rfl (hV) rfl rfl rfl ?_ | refine R_callvZ rfl (hV) rfl rfl rfl rfl ?_ | refine D_callZ rfl (hV) rfl rfl rfl ?_ | ((first | refine R_cond rfl (fun hq => ?_) fun hq => ?_ | refine R_guardT rfl rfl rfl (fun hq => ?_) fun hq => ?_ | refine R_guardF rfl rfl rfl (fun hq => ?_) fun hq => ?_ | refine D_guardT rfl rfl rfl (fun hq => ?_) fun hq => ?_ | refine D_guardF rfl rfl rfl (fun hq => ?_) fun hq => ?_) <;> (try rw [hq]) <;> first | have hp := of_decide_eq_true hq | have hp := of_decide_eq_false hq | have hp := of_decide_eq_false (not_t hq) | have hp := of_decide_eq_true (not_f hq) | have hp := hq))
    exact ret_lit2 rfl (by simp [tnR, tnB, hg]) (by simp [tnB, hg])
  have hgl := goodStg_len hg
  have hI := within_f t 0 (((s.labels.map dLab).length : Int) - 1)
  have eI : decide (0 ≤ t ∧ t ≤ ((s.labels.map dLab).length : Int) - 1) = decide (0 ≤ t ∧ t ≤ (s.labels.length : Int) - 1) := by rw [hz]
  rw [eI] at hI
  cases hm : decide (0 ≤ t ∧ t ≤ (s.labels.length : Int) - 1) <;> rw [hm] at hI
  · repeat' (first | refine goZ ?_ | refine R_callZ rfl (hV) rfl rfl rfl ?_ | refine R_callZ rfl (hI) rfl rfl rfl ?_ | refine R_callvZ rfl (hV) rfl rfl rfl rfl ?_ | refine R_callvZ rfl (hI) rfl rfl rfl rfl ?_ | refine D_callZ rfl (hV) rfl rfl rfl ?_ | refine D_callZ rfl (hI) rfl rfl rfl ?_ | ((first | refine R_cond rfl (fun hq => ?_) fun hq => ?_ | refine R_guardT rfl rfl rfl (fun hq => ?_) fun hq => ?_ | refine R_guardF rfl rfl rfl (fun hq => ?_) fun hq => ?_ | refine D_guardT rfl rfl rfl (fun hq => ?_) fun hq => ?_ | refine D_guardF rfl rfl rfl (fun hq => ?_) fun hq => ?_) <;> (try rw [hq]) <;> first | have hp := of_decide_eq_true hq | have hp := of_decide_eq_false hq | have hp := of_decide_eq_false (not_t hq) | have hp := of_decide_eq_true (not_f hq) | have hp := hq))
    exact ret_lit2 rfl (by simp only [tnR, tnB, hg, hm]; rfl) (by simp only [tnB, hg, hm]; rfl)
  have hm' := of_decide_eq_true hm
  have hT := transitionName_f s t.toNat hg (by omega)
  rw [show ((t.toNat : Nat) : Int) = t by omega] at hT
  repeat' (first | refine goZ ?_ | refine R_callZ rfl (hV) rfl rfl rfl ?_ | refine R_callZ rfl (hI) rfl rfl rfl ?_ | refine R_callZ rfl (hT) rfl rfl rfl ?_ | refine R_callvZ rfl (hV) rfl rfl rfl rfl ?_ | refine R_callvZ rfl (hI) rfl rfl rfl rfl ?_ | refine R_callvZ rfl (hT) rfl rfl rfl rfl ?_ | refine D_callZ rfl (hV) rfl rfl rfl ?_ | refine D_callZ rfl (hI) rfl rfl rfl ?_ | refine D_callZ rfl (hT) rfl rfl rfl ?_ | ((first | refine R_cond rfl (fun hq => ?_) fun hq => ?_ | refine R_guardT rfl rfl rfl (fun hq => ?_) fun hq => ?_ | refine R_guardF rfl rfl rfl (fun hq => ?_) fun hq => ?_ | refine D_guardT rfl rfl rfl (fun hq => ?_) fun hq => ?_ | refine D_guardF rfl rfl rfl (fun hq => ?_) fun hq => ?_) <;> (try rw [hq]) <;> first | have hp := of_decide_eq_true hq | have hp := of_decide_eq_false hq | have hp := of_decide_eq_false (not_t hq) | have hp := of_decide_eq_true (not_f hq) | have hp := hq))
  exact ret_lit2 rfl (by simp only [tnR, tnB, hg, hm]; rfl) (by simp only [tnB, hg, hm]; rfl)
theorem TransitionByName_f (s : Stg) (text : ByteArray) (hs : s.start.size ≤ 1048576) : Fn Tryd.prog 13 [.agg (dStg s), .lit (.string text)] (.tup [.lit (.int .i64 (byR s text)), .lit (.bool (byB s text))]) [] := by
  refine Fn_of Tryd.func13 rfl (by kernel_rfl) rfl rfl ?_
  intro w0 A hin
  have hz := len_dLab s.labels
  have hV := IsValidSTG_f s hs
  cases hg : goodStg s <;> rw [hg] at hV
  · repeat' (first | refine goZ ?_ | refine R_callZ rfl (hV) rfl rfl rfl ?_ | refine R_callvZ rfl (hV) rfl rfl rfl rfl ?_ | refine D_callZ rfl (hV) rfl rfl rfl ?_ | ((first | refine R_cond rfl (fun hq => ?_) fun hq => ?_ | refine R_guardT rfl rfl rfl (fun hq => ?_) fun hq => ?_ | refine R_guardF rfl rfl rfl (fun hq => ?_) fun hq => ?_ | refine D_guardT rfl rfl rfl (fun hq => ?_) fun hq => ?_ | refine D_guardF rfl rfl rfl (fun hq => ?_) fun hq => ?_) <;> (try rw [hq]) <;> first | have hp := of_decide_eq_true hq | have hp := of_decide_eq_false hq | have hp := of_decide_eq_false (not_t hq) | have hp := of_decide_eq_true (not_f hq) | have hp := hq))
    exact ret_lit2 rfl (by simp [byR, byB, hg]) (by simp [byB, hg])
  have hgl := goodStg_len hg
  repeat' (first | refine goZ ?_ | refine R_callZ rfl (hV) rfl rfl rfl ?_ | refine R_callvZ rfl (hV) rfl rfl rfl rfl ?_ | refine D_callZ rfl (hV) rfl rfl rfl ?_ | ((first | refine R_cond rfl (fun hq => ?_) fun hq => ?_ | refine R_guardT rfl rfl rfl (fun hq => ?_) fun hq => ?_ | refine R_guardF rfl rfl rfl (fun hq => ?_) fun hq => ?_ | refine D_guardT rfl rfl rfl (fun hq => ?_) fun hq => ?_ | refine D_guardF rfl rfl rfl (fun hq => ?_) fun hq => ?_) <;> (try rw [hq]) <;> first | have hp := of_decide_eq_true hq | have hp := of_decide_eq_false hq | have hp := of_decide_eq_false (not_t hq) | have hp := of_decide_eq_true (not_f hq) | have hp := hq))
  refine W_loop (fun k : Nat => ⟨_, [(1, .lit (.string text)), (2, .ptr 0 0), (12, .lit (.int .i64 s.labels.length)), (13, .lit (.int .i64 k))], [.cells 38 (dStg s)]⟩) (fun k => k ≤ s.labels.length ∧ ∀ j, j < k → byP s text j = false) (fun k => s.labels.length - k) 0 ⟨Nat.zero_le _, by omega⟩ (weakZ []) ?_
  rintro k ⟨hk, hj⟩
  have hT : k < s.labels.length → _ := fun h => transitionName_f s k hg h
  repeat' (first | refine goZ ?_ | refine R_callZ rfl (hT (by omega)) rfl rfl rfl ?_ | refine R_callvZ rfl (hT (by omega)) rfl rfl rfl rfl ?_ | refine D_callZ rfl (hT (by omega)) rfl rfl rfl ?_ | ((first | refine R_cond rfl (fun hq => ?_) fun hq => ?_ | refine R_guardT rfl rfl rfl (fun hq => ?_) fun hq => ?_ | refine R_guardF rfl rfl rfl (fun hq => ?_) fun hq => ?_ | refine D_guardT rfl rfl rfl (fun hq => ?_) fun hq => ?_ | refine D_guardF rfl rfl rfl (fun hq => ?_) fun hq => ?_) <;> (try rw [hq]) <;> first | have hp := of_decide_eq_true hq | have hp := of_decide_eq_false hq | have hp := of_decide_eq_false (not_t hq) | have hp := of_decide_eq_true (not_f hq) | have hp := hq))
  · have hf := byI_at (text := text) (show k < s.labels.length by omega) hj hq
    exact ret_lit2 rfl (by simp [byR, byB, hg, hf]) (by simp [byB, hg, hf])
  · exact ⟨k + 1, ⟨by omega, fun j hj' => by
      by_cases e : j = k
      · rw [e]; exact hq
      · exact hj j (by omega)⟩, by omega, weakZ _⟩
  · have hf := byI_not (s := s) (text := text) fun j h => hj j (by omega)
    exact ret_lit2 rfl (by simp [byR, byB, hg, hf]) (by simp [byB, hg, hf])

theorem specTransitionName_f (s : Stg) (t : Int) (hs : s.start.size ≤ 1048576) : Fn Tryd.prog 8 [.agg (dStg s), .lit (.int .i64 t)] (.tup [.lit (.string (tnR s t)), .lit (.bool (tnB s t))]) [] := by
  refine Fn_of Tryd.func8 rfl (by kernel_rfl) rfl rfl ?_
  intro w0 A hin
  have hz := len_dLab s.labels
  have ht64 := given_int hin (i := 1) rfl
  have hV := l2Good_f s hs
  cases hg : goodStg s <;> rw [hg] at hV
  · repeat' (first | refine goZ ?_ | refine R_callZ rfl (hV) rfl rfl rfl ?_ | refine R_callvZ rfl (hV) rfl rfl rfl rfl ?_ | refine D_callZ rfl (hV) rfl rfl rfl ?_ | ((first | refine R_cond rfl (fun hq => ?_) fun hq => ?_ | refine R_guardT rfl rfl rfl (fun hq => ?_) fun hq => ?_ | refine R_guardF rfl rfl rfl (fun hq => ?_) fun hq => ?_ | refine D_guardT rfl rfl rfl (fun hq => ?_) fun hq => ?_ | refine D_guardF rfl rfl rfl (fun hq => ?_) fun hq => ?_) <;> (try rw [hq]) <;> first | have hp := of_decide_eq_true hq | have hp := of_decide_eq_false hq | have hp := of_decide_eq_false (not_t hq) | have hp := of_decide_eq_true (not_f hq) | have hp := hq))
    exact ret_lit2 rfl (by simp [tnR, tnB, hg]) (by simp [tnB, hg])
  have hgl := goodStg_len hg
  have hI := l1In_f t 0 (((s.labels.map dLab).length : Int) - 1)
  have eI : decide (0 ≤ t ∧ t ≤ ((s.labels.map dLab).length : Int) - 1) = decide (0 ≤ t ∧ t ≤ (s.labels.length : Int) - 1) := by rw [hz]
  rw [eI] at hI
  cases hm : decide (0 ≤ t ∧ t ≤ (s.labels.length : Int) - 1) <;> rw [hm] at hI
  · repeat' (first | refine goZ ?_ | refine R_callZ rfl (hV) rfl rfl rfl ?_ | refine R_callZ rfl (hI) rfl rfl rfl ?_ | refine R_callvZ rfl (hV) rfl rfl rfl rfl ?_ | refine R_callvZ rfl (hI) rfl rfl rfl rfl ?_ | refine D_callZ rfl (hV) rfl rfl rfl ?_ | refine D_callZ rfl (hI) rfl rfl rfl ?_ | ((first | refine R_cond rfl (fun hq => ?_) fun hq => ?_ | refine R_guardT rfl rfl rfl (fun hq => ?_) fun hq => ?_ | refine R_guardF rfl rfl rfl (fun hq => ?_) fun hq => ?_ | refine D_guardT rfl rfl rfl (fun hq => ?_) fun hq => ?_ | refine D_guardF rfl rfl rfl (fun hq => ?_) fun hq => ?_) <;> (try rw [hq]) <;> first | have hp := of_decide_eq_true hq | have hp := of_decide_eq_false hq | have hp := of_decide_eq_false (not_t hq) | have hp := of_decide_eq_true (not_f hq) | have hp := hq))
    exact ret_lit2 rfl (by simp only [tnR, tnB, hg, hm]; rfl) (by simp only [tnB, hg, hm]; rfl)
  have hm' := of_decide_eq_true hm
  have hT := l2Text_f s t.toNat hg (by omega)
  rw [show ((t.toNat : Nat) : Int) = t by omega] at hT
  repeat' (first | refine goZ ?_ | refine R_callZ rfl (hV) rfl rfl rfl ?_ | refine R_callZ rfl (hI) rfl rfl rfl ?_ | refine R_callZ rfl (hT) rfl rfl rfl ?_ | refine R_callvZ rfl (hV) rfl rfl rfl rfl ?_ | refine R_callvZ rfl (hI) rfl rfl rfl rfl ?_ | refine R_callvZ rfl (hT) rfl rfl rfl rfl ?_ | refine D_callZ rfl (hV) rfl rfl rfl ?_ | refine D_callZ rfl (hI) rfl rfl rfl ?_ | refine D_callZ rfl (hT) rfl rfl rfl ?_ | ((first | refine R_cond rfl (fun hq => ?_) fun hq => ?_ | refine R_guardT rfl rfl rfl (fun hq => ?_) fun hq => ?_ | refine R_guardF rfl rfl rfl (fun hq => ?_) fun hq => ?_ | refine D_guardT rfl rfl rfl (fun hq => ?_) fun hq => ?_ | refine D_guardF rfl rfl rfl (fun hq => ?_) fun hq => ?_) <;> (try rw [hq]) <;> first | have hp := of_decide_eq_true hq | have hp := of_decide_eq_false hq | have hp := of_decide_eq_false (not_t hq) | have hp := of_decide_eq_true (not_f hq) | have hp := hq))
  exact ret_lit2 rfl (by simp only [tnR, tnB, hg, hm]; rfl) (by simp only [tnB, hg, hm]; rfl)
theorem specTransitionByName_f (s : Stg) (text : ByteArray) (hs : s.start.size ≤ 1048576) : Fn Tryd.prog 12 [.agg (dStg s), .lit (.string text)] (.tup [.lit (.int .i64 (byR s text)), .lit (.bool (byB s text))]) [] := by
  refine Fn_of Tryd.func12 rfl (by kernel_rfl) rfl rfl ?_
  intro w0 A hin
  have hz := len_dLab s.labels
  have hV := l2Good_f s hs
  cases hg : goodStg s <;> rw [hg] at hV
  · repeat' (first | refine goZ ?_ | refine R_callZ rfl (hV) rfl rfl rfl ?_ | refine R_callvZ rfl (hV) rfl rfl rfl rfl ?_ | refine D_callZ rfl (hV) rfl rfl rfl ?_ | ((first | refine R_cond rfl (fun hq => ?_) fun hq => ?_ | refine R_guardT rfl rfl rfl (fun hq => ?_) fun hq => ?_ | refine R_guardF rfl rfl rfl (fun hq => ?_) fun hq => ?_ | refine D_guardT rfl rfl rfl (fun hq => ?_) fun hq => ?_ | refine D_guardF rfl rfl rfl (fun hq => ?_) fun hq => ?_) <;> (try rw [hq]) <;> first | have hp := of_decide_eq_true hq | have hp := of_decide_eq_false hq | have hp := of_decide_eq_false (not_t hq) | have hp := of_decide_eq_true (not_f hq) | have hp := hq))
    exact ret_lit2 rfl (by simp [byR, byB, hg]) (by simp [byB, hg])
  have hgl := goodStg_len hg
  repeat' (first | refine goZ ?_ | refine R_callZ rfl (hV) rfl rfl rfl ?_ | refine R_callvZ rfl (hV) rfl rfl rfl rfl ?_ | refine D_callZ rfl (hV) rfl rfl rfl ?_ | ((first | refine R_cond rfl (fun hq => ?_) fun hq => ?_ | refine R_guardT rfl rfl rfl (fun hq => ?_) fun hq => ?_ | refine R_guardF rfl rfl rfl (fun hq => ?_) fun hq => ?_ | refine D_guardT rfl rfl rfl (fun hq => ?_) fun hq => ?_ | refine D_guardF rfl rfl rfl (fun hq => ?_) fun hq => ?_) <;> (try rw [hq]) <;> first | have hp := of_decide_eq_true hq | have hp := of_decide_eq_false hq | have hp := of_decide_eq_false (not_t hq) | have hp := of_decide_eq_true (not_f hq) | have hp := hq))
  refine W_loop (fun k : Nat => ⟨_, [(1, .lit (.string text)), (2, .ptr 0 0), (12, .lit (.int .i64 s.labels.length)), (13, .lit (.int .i64 k))], [.cells 38 (dStg s)]⟩) (fun k => k ≤ s.labels.length ∧ ∀ j, j < k → byP s text j = false) (fun k => s.labels.length - k) 0 ⟨Nat.zero_le _, by omega⟩ (weakZ []) ?_
  rintro k ⟨hk, hj⟩
  have hT : k < s.labels.length → _ := fun h => l2Text_f s k hg h
  repeat' (first | refine goZ ?_ | refine R_callZ rfl (hT (by omega)) rfl rfl rfl ?_ | refine R_callvZ rfl (hT (by omega)) rfl rfl rfl rfl ?_ | refine D_callZ rfl (hT (by omega)) rfl rfl rfl ?_ | ((first | refine R_cond rfl (fun hq => ?_) fun hq => ?_ | refine R_guardT rfl rfl rfl (fun hq => ?_) fun hq => ?_ | refine R_guardF rfl rfl rfl (fun hq => ?_) fun hq => ?_ | refine D_guardT rfl rfl rfl (fun hq => ?_) fun hq => ?_ | refine D_guardF rfl rfl rfl (fun hq => ?_) fun hq => ?_) <;> (try rw [hq]) <;> first | have hp := of_decide_eq_true hq | have hp := of_decide_eq_false hq | have hp := of_decide_eq_false (not_t hq) | have hp := of_decide_eq_true (not_f hq) | have hp := hq))
  · have hf := byI_at (text := text) (show k < s.labels.length by omega) hj hq
    exact ret_lit2 rfl (by simp [byR, byB, hg, hf]) (by simp [byB, hg, hf])
  · exact ⟨k + 1, ⟨by omega, fun j hj' => by
      by_cases e : j = k
      · rw [e]; exact hq
      · exact hj j (by omega)⟩, by omega, weakZ _⟩
  · have hf := byI_not (s := s) (text := text) fun j h => hj j (by omega)
    exact ret_lit2 rfl (by simp [byR, byB, hg, hf]) (by simp [byB, hg, hf])
end Go.Proofs.YtkegeacjalechaaDoor
