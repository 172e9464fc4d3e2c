/- slices.Compact over labels: what stands twice in a row is struck out in place. No condition. -/
import Derived.Test.YtcmedjlpaondjaaMv
import Derived.Test.YtcmedjlpaondjaaSgc
import Derived.Test.YtcmedjlpaondjaaNet
import Derived.Test.YtcmedjlpaondjaaDrw
set_option linter.unusedSimpArgs false
set_option linter.unusedVariables false
set_option maxHeartbeats 2000000
namespace Go.Proofs.Ytcmedjlpaondjaa
open Go.ChangeShapes Go.WideShapes Go.ChangeAt Go.RowKit

section
variable {P : Program} {tab : Nat → Option TI} {w0 : World} {A : Nat → Prop} {n : Nat} {sl : List (Nat × D)} {hp : List Blk} {ops : Array Oper} {rest : List Oper} {K : St → Prop} {dst : Tmp} {ty : TypeId} {pos : String} {after : Array Edge}
theorem part_val {ms : List Ent} {a : Act} {w : World} (hr : Rel w0 A ms ⟨n, sl, hp⟩ a w) {x : Operand} {k m m' lo hi : Nat} {T : TypeId} {xs : List (List D)} {dp : Bool} (hx : evD (look sl) x = .part k m lo hi) (hb : hp[k]? = some (.arr T m' xs dp)) (hlt : lo < hi) :
    ∃ e g cap, ms[k]? = some e ∧ e.top = some g ∧ cap ≤ maxLen ∧ hi ≤ cap ∧ a.eval x = .slice (some ((⟨g, 0, none⟩ : Addr).add (lo * m))) (hi - lo) (cap - lo) := by
  obtain ⟨e, av, n0, c, hik, ev, ⟨b1, b2⟩, e2⟩ := (hr.ev_at hx).part_inv
  obtain ⟨us, bs, ⟨o0, o1⟩, o2, o3, o4, _⟩ := hr.ents k _ e hb hik
  rcases o1 with ⟨hv, h0⟩ | ⟨g, cap, cur, hv, _, _, c1, c2, _⟩
  · rw [hv] at ev; cases ev; omega
  · rw [hv] at ev; cases ev
    refine ⟨e, g, _, hik, by rw [o4, hv]; rfl, c2, by omega, ?_⟩
    rw [e2, if_neg (by omega)]; rfl
/-- The length of a part of an array of the call's own. -/
theorem R_lenPart (hT : TabOk P tab) {x : Operand} {t T T' : TypeId} {k m m' lo hi : Nat} {xs : List (List D)} {dp : Bool} {agg : Bool} {size bytes : Nat} {zero : List Value} (hx : evD (look sl) x = .part k m lo hi) (hb : hp[k]? = some (.arr T m' xs dp)) (ht : tab t = some ⟨.sl T', agg, size, bytes, zero⟩) (hlt : lo < hi) (hd : Nat.blt dst n = true)
    {v : Int} (hv : v = (hi : Int) - lo) (hK : WO P w0 A ops rest ⟨n, (dst, .lit (.int .i64 v)) :: sl, hp⟩ K) : WO P w0 A ops (⟨some dst, .call ⟨.builtin .len, #[x], #[t]⟩, ty, pos, after, none⟩ :: rest) ⟨n, sl, hp⟩ K := by
  refine ⟨fun ms a w hr Q hq => ?_⟩
  refine wpList_plain rfl fun Kn hKn => ?_
  obtain ⟨e, g, cap, _, _, h1, h2, h3⟩ := part_val hr hx hb hlt
  obtain ⟨inf, td, z, q1, q2, q3, q4, q5, q6, _⟩ := hT.get ht
  have htd := TK.sl_inv q4
  subst htd
  have hvv : v = ((hi - lo : Nat) : Int) := by omega
  have hrun : (execOp a.eval ⟨some dst, .call ⟨.builtin .len, #[x], #[t]⟩, ty, pos, after, none⟩).run P w = .ok (.value (.int .i64 v)) w := by
    rw [hvv]
    simp [execOp, resolve, invoke, builtin, Builtin.len_, Sem.run_bind, Sem.run, pure, Result.andThen, run_underlying q2, h3, goInt]
  unfold maxLen at h1
  exact upon_value hrun (hKn _ _ (hK.run ms _ w (Rel.put (t := some dst) hr (int_vx (litOk_i64.2 ⟨by omega, by omega⟩)) (dstOk_all (s := ⟨n, _, _⟩) (t := some dst) hd)) Q hq))
/-- The address of an element of a part of an array of the call's own. -/
theorem R_idxPart (hT : TabOk P tab) {x y : Operand} {t T : TypeId} {k m lo hi : Nat} {j : Int} {xs : List (List D)} {dp : Bool} {agg : Bool} {size bytes : Nat} {zero : List Value} {k' : TK} {agg' : Bool} {bytes' : Nat} {zero' : List Value} (hx : evD (look sl) x = .part k m lo hi) (hy : evD (look sl) y = .lit (.int .i64 j)) (hb : hp[k]? = some (.arr T m xs dp)) (ht : tab t = some ⟨.sl T, agg, size, bytes, zero⟩) (hT' : tab T = some ⟨k', agg', m, bytes', zero'⟩)
    (hj : 0 ≤ j ∧ j < (hi : Int) - lo) (hd : Nat.blt dst n = true) {j2 : Int} (hj2 : j2 = (lo : Int) + j) (hK : WO P w0 A ops rest ⟨n, (dst, .eptr k m j2 0) :: sl, hp⟩ K) : WO P w0 A ops (⟨some dst, .indexAddr t x y, ty, pos, after, none⟩ :: rest) ⟨n, sl, hp⟩ K := by
  refine ⟨fun ms a w hr Q hq => ?_⟩
  refine wpList_plain rfl fun Kn hKn => ?_
  obtain ⟨e, g, cap, hik, htop, h1, h2, h3⟩ := part_val hr hx hb (by omega)
  obtain ⟨inf, td, z, q1, q2, q3, q4, q5, q6, _⟩ := hT.get ht
  obtain ⟨inf', td', z', g1, g2, g3, g4, g5, g6, _⟩ := hT.get hT'
  have htd := TK.sl_inv q4
  subst htd
  obtain ⟨e2, _⟩ := (hr.ev_at hy).lit_inv
  have hjn : (j2).toNat = lo + j.toNat := by omega
  have hrun : (execOp a.eval ⟨some dst, .indexAddr t x y, ty, pos, after, none⟩).run P w = .ok (.value (.pointer (some ⟨g, j2.toNat * m + 0, none⟩))) w := by
    have hc : (0 ≤ j ∧ j < ((hi - lo : Nat) : Int)) := by omega
    simp only [execOp, Instr.indexAt, h3, e2, asIntOf, Sem.run_bind, Sem.run, pure, Result.andThen, run_underlying q2]
    simp only [hc, and_self, if_true, run_sizeOf g1, g6]
    rw [hjn, Nat.add_mul]
    simp only [Addr.add]
    by_cases ha : lo * m = 0 <;> by_cases hb : j.toNat * m = 0 <;> simp [ha, hb, run_sizeOf g1, g6]
  exact upon_value hrun (hKn _ _ (hK.run ms _ w (Rel.put (t := some dst) hr (.eptr hik htop) (dstOk_all (s := ⟨n, _, _⟩) (t := some dst) hd)) Q hq))
end

/-! ### The plain part -/
/-- The first k labels, what equals its neighbour ahead struck out. -/
def ddN (l : List Lab) : Nat → List Lab
  | 0 => []
  | k + 1 => if k = 0 ∨ nth l k ≠ nth l (k - 1) then ddN l k ++ [nth l k] else ddN l k
theorem ddN_len (l : List Lab) : ∀ k, (ddN l k).length ≤ k
  | 0 => by simp [ddN]
  | k + 1 => by
    have := ddN_len l k
    simp only [ddN]; split <;> simp <;> omega
theorem ddN_all {l : List Lab} : ∀ {k : Nat}, k ≤ l.length → (∀ j, 0 < j → j < k → nth l j ≠ nth l (j - 1)) → ddN l k = l.take k
  | 0, _, _ => by simp [ddN]
  | k + 1, hk, h => by
    rw [ddN, ddN_all (by omega) fun j h1 h2 => h j h1 (by omega), if_pos, take_nth (by omega)]
    by_cases e : k = 0
    · exact Or.inl e
    · exact Or.inr (h k (by omega) (by omega))
def ddL (l : List Lab) : List Lab := ddN l l.length
/-- The second loop: p labels looked at, r kept. -/
structure CptInv (l cur : List Lab) (p r : Nat) : Prop where
  len : cur.length = l.length
  lt : r < p
  le : p ≤ l.length
  keep : cur.take r = ddN l p
  same : ∀ q, p - 1 ≤ q → q < l.length → nth cur q = nth l q
theorem CptInv.yes {l cur : List Lab} {p r : Nat} (h : CptInv l cur p r) (hp : p < l.length) (hne : nth l p ≠ nth l (p - 1)) : CptInv l (cur.set r (nth cur p)) (p + 1) (r + 1) := by
  have hl := h.len; have hlt := h.lt
  refine ⟨by simp [hl], by omega, by omega, ?_, fun q h1 h2 => ?_⟩
  · rw [ddN, if_pos (Or.inr hne), ← h.keep, h.same p (by omega) hp]
    rw [take_nth (by simp; omega), List.take_set_of_le (Nat.le_refl _), nth_get (by simp; omega)]
    simp
  · rw [nth_get (by simp; omega), List.getElem_set_ne (by omega), ← nth_get (by omega)]
    exact h.same q (by omega) h2
theorem CptInv.no {l cur : List Lab} {p r : Nat} (h : CptInv l cur p r) (hp : p < l.length) (he : nth l p = nth l (p - 1)) : CptInv l cur (p + 1) r := by
  have hlt := h.lt
  refine ⟨h.len, by omega, by omega, ?_, fun q h1 h2 => h.same q (by omega) h2⟩
  rw [ddN, if_neg, h.keep]
  rintro (h1 | h1)
  · omega
  · exact h1 he

theorem CompactL_m (l : List Lab) (hl : l.length ≤ 1000000) : FnM Try.prog 115 (.arr 96 2 (l.map dLab) true) [.own 0] (.own 0) [.arr 96 2 ((ddL l).map dLab) true] := by
  refine FnM_of Try.func115 rfl (by kernel_rfl) rfl rfl rfl rfl rfl ?_
  intro w0 A R
  have hfl : ∀ l : List Lab, Flat (l.map dLab) := fun l => flat_map (by simp [dLab, isLit])
  have hz := fun l => len_dLab l
  have hz0 := hz l
  repeat' (first | refine goZ ?_ | ((first | refine R_cond rfl (fun hq => ?_) fun hq => ?_ | refine R_guardT rfl rfl rfl (fun hq => ?_) fun hq => ?_ | refine R_guardF rfl rfl rfl (fun hq => ?_) fun hq => ?_ | refine D_guardT rfl rfl rfl (fun hq => ?_) fun hq => ?_ | refine D_guardF rfl rfl rfl (fun hq => ?_) fun hq => ?_) <;> (try rw [hq]) <;> first | have hp := of_decide_eq_true hq | have hp := of_decide_eq_false hq | have hp := of_decide_eq_false (not_t hq) | have hp := of_decide_eq_true (not_f hq) | have hp := hq))
  · refine .r (ret_own rfl rfl ?_) rfl
    have h1 : l.length < 2 := by omega
    rw [ddL, ddN_all (Nat.le_refl _) fun j h2 h3 => by omega, List.take_length]
  refine W_loop (fun k : Nat => ⟨_, [(0, .own 0), (3, .lit (.int .i64 k))], [.arr 96 2 (l.map dLab) true, .cust R]⟩) (fun k => (1 ≤ k ∧ k ≤ l.length) ∧ ∀ j, 0 < j → j < k → nth l j ≠ nth l (j - 1)) (fun k => l.length - k) 1 ⟨by omega, fun j h1 h2 => by omega⟩ (weakZ []) ?_
  rintro k ⟨⟨hk1, hk⟩, hj⟩
  have hE := eq_Lab (nth l k) (nth l ((k : Int) - 1).toNat)
  have ek : ((k : Int) - 1).toNat = k - 1 := by omega
  repeat' (first | refine W_drawAt 9 mixed tabOk rfl rfl rfl ?_ | refine go1 ?_ | refine R_eqs hE rfl rfl rfl ?_ | ((first | refine R_cond rfl (fun hq => ?_) fun hq => ?_ | refine R_guardT rfl rfl rfl (fun hq => ?_) fun hq => ?_ | refine R_guardF rfl rfl rfl (fun hq => ?_) fun hq => ?_ | refine D_guardT rfl rfl rfl (fun hq => ?_) fun hq => ?_ | refine D_guardF rfl rfl rfl (fun hq => ?_) fun hq => ?_) <;> (try rw [hq]) <;> first | have hp := of_decide_eq_true hq | have hp := of_decide_eq_false hq | have hp := of_decide_eq_false (not_t hq) | have hp := of_decide_eq_true (not_f hq) | have hp := hq))
  rotate_left
  · refine ⟨k + 1, ⟨⟨by omega, by omega⟩, fun j h1 h2 => ?_⟩, by omega, weakZ _⟩
    by_cases e : j = k
    · subst e
      rw [ek] at hE
      have := of_decide_eq_false hq
      rwa [ek] at this
    · exact hj j h1 (by omega)
  · refine .r (ret_own rfl rfl ?_) rfl
    have h1 : k = l.length := by omega
    rw [ddL, ddN_all (Nat.le_refl _) (by rw [← h1]; exact hj), List.take_length]
  have hlt : k < l.length := by omega
  have heq : nth l k = nth l (k - 1) := by have := of_decide_eq_true hq; rwa [ek] at this
  refine W_loop (fun x : List Lab × Nat × Nat => ⟨_, [(0, .own 0), (3, .lit (.int .i64 x.2.1)), (4, .part 0 2 k (l.map dLab).length), (5, .lit (.int .i64 x.2.2))], [.arr 96 2 (x.1.map dLab) true, .cust R]⟩) (fun x => CptInv l x.1 (k + x.2.2) x.2.1 ∧ 1 ≤ x.2.2) (fun x => l.length - (k + x.2.2)) (l, k, 1) ⟨⟨rfl, by simp only; omega, by simp only; omega, ?_, fun q _ _ => rfl⟩, by simp only; omega⟩ (weakZ []) ?_
  · simp only
    rw [ddN, if_neg (by rintro (h | h); omega; exact h heq), ddN_all (by omega) hj]
  rintro ⟨cur, r, k2⟩ ⟨hI, hk2⟩
  dsimp only at hI hk2 ⊢
  have hi1 := hI.lt
  have hi2 := hI.le
  have hi3 := hI.len
  have hi4 := hz cur
  have hE2 := eq_Lab (nth cur (k + k2)) (nth cur (k + k2 - 1))
  have hs1 : k + k2 < l.length → nth cur (k + k2) = nth l (k + k2) := fun h => hI.same _ (by omega) h
  have hs2 : k + k2 < l.length → nth cur (k + k2 - 1) = nth l (k + k2 - 1) := fun h => hI.same _ (Nat.le_refl _) (by omega)
  repeat' (first | refine R_clearTail tabOk rfl rfl rfl rfl rfl rfl rfl rfl rfl rfl rfl (hfl _) (by omega) ?_ | refine R_cutOwn tabOk rfl rfl rfl rfl rfl rfl rfl rfl (flat_tail (hfl _) rfl) (by simp; omega) ?_ | refine W_held mixed [] ?_ | refine go1 ?_ | refine goH ?_ | refine And.intro (by exact trivial) (idH ?_) | refine H_pop tabOk 0 (by exact rfl) (by exact rfl) (by exact rfl) (by exact rfl) (by exact trivial) (by exact rfl) (by exact rfl) (by exact rfl) (by exact rfl) (by exact trivial) ?_ | refine H_pop tabOk 1 (by exact rfl) (by exact rfl) (by exact rfl) (by exact rfl) (by exact trivial) (by exact rfl) (by exact rfl) (by exact rfl) (by exact rfl) (by exact trivial) ?_ | refine H_pop tabOk 2 (by exact rfl) (by exact rfl) (by exact rfl) (by exact rfl) (by exact trivial) (by exact rfl) (by exact rfl) (by exact rfl) (by exact rfl) (by exact trivial) ?_ | refine H_pop tabOk 3 (by exact rfl) (by exact rfl) (by exact rfl) (by exact rfl) (by exact trivial) (by exact rfl) (by exact rfl) (by exact rfl) (by exact rfl) (by exact trivial) ?_ | refine H_pop tabOk 4 (by exact rfl) (by exact rfl) (by exact rfl) (by exact rfl) (by exact trivial) (by exact rfl) (by exact rfl) (by exact rfl) (by exact rfl) (by exact trivial) ?_ | refine R_idxPart tabOk rfl rfl rfl rfl rfl (by omega) rfl (j2 := ((k + k2 : Nat) : Int)) (by omega) ?_ | refine R_idxPart tabOk rfl rfl rfl rfl rfl (by omega) rfl (j2 := ((k + k2 - 1 : Nat) : Int)) (by omega) ?_ | refine R_lenPart tabOk rfl rfl rfl (by omega) rfl (v := (l.length : Int) - k) (by omega) ?_ | refine R_estoreZ tabOk rfl rfl rfl rfl rfl rfl rfl (rowAt_nat (by omega)) rfl rfl (setAt_nat (v := nth cur (k + k2)) rfl) rfl ?_ | refine R_nes hE2 rfl rfl rfl ?_ | ((first | refine R_cond rfl (fun hq => ?_) fun hq => ?_ | refine R_guardT rfl rfl rfl (fun hq => ?_) fun hq => ?_ | refine R_guardF rfl rfl rfl (fun hq => ?_) fun hq => ?_ | refine D_guardT rfl rfl rfl (fun hq => ?_) fun hq => ?_ | refine D_guardF rfl rfl rfl (fun hq => ?_) fun hq => ?_) <;> (try rw [hq]) <;> first | have hp := of_decide_eq_true hq | have hp := of_decide_eq_false hq | have hp := of_decide_eq_false (not_t hq) | have hp := of_decide_eq_true (not_f hq) | have hp := hq))
  rotate_left
  · refine .r (ret_own rfl rfl ((cut_tail (f := dLab) (by omega)).trans ?_)) rfl
    have hend : k + k2 = l.length := by omega
    rw [hI.keep, hend]; rfl
  refine H_two (by exact rfl) (by exact rfl) (by exact rfl) (by exact rfl) (by exact rfl) ?_ ?_
  all_goals repeat' (first | refine R_clearTail tabOk rfl rfl rfl rfl rfl rfl rfl rfl rfl rfl rfl (hfl _) (by omega) ?_ | refine R_cutOwn tabOk rfl rfl rfl rfl rfl rfl rfl rfl (flat_tail (hfl _) rfl) (by simp; omega) ?_ | refine W_held mixed [] ?_ | refine go1 ?_ | refine goH ?_ | refine And.intro (by exact trivial) (idH ?_) | refine H_pop tabOk 0 (by exact rfl) (by exact rfl) (by exact rfl) (by exact rfl) (by exact trivial) (by exact rfl) (by exact rfl) (by exact rfl) (by exact rfl) (by exact trivial) ?_ | refine H_pop tabOk 1 (by exact rfl) (by exact rfl) (by exact rfl) (by exact rfl) (by exact trivial) (by exact rfl) (by exact rfl) (by exact rfl) (by exact rfl) (by exact trivial) ?_ | refine H_pop tabOk 2 (by exact rfl) (by exact rfl) (by exact rfl) (by exact rfl) (by exact trivial) (by exact rfl) (by exact rfl) (by exact rfl) (by exact rfl) (by exact trivial) ?_ | refine H_pop tabOk 3 (by exact rfl) (by exact rfl) (by exact rfl) (by exact rfl) (by exact trivial) (by exact rfl) (by exact rfl) (by exact rfl) (by exact rfl) (by exact trivial) ?_ | refine H_pop tabOk 4 (by exact rfl) (by exact rfl) (by exact rfl) (by exact rfl) (by exact trivial) (by exact rfl) (by exact rfl) (by exact rfl) (by exact rfl) (by exact trivial) ?_ | refine R_idxPart tabOk rfl rfl rfl rfl rfl (by omega) rfl (j2 := ((k + k2 : Nat) : Int)) (by omega) ?_ | refine R_idxPart tabOk rfl rfl rfl rfl rfl (by omega) rfl (j2 := ((k + k2 - 1 : Nat) : Int)) (by omega) ?_ | refine R_lenPart tabOk rfl rfl rfl (by omega) rfl (v := (l.length : Int) - k) (by omega) ?_ | refine R_estoreZ tabOk rfl rfl rfl rfl rfl rfl rfl (rowAt_nat (by omega)) rfl rfl (setAt_nat (v := nth cur (k + k2)) rfl) rfl ?_ | refine R_nes hE2 rfl rfl rfl ?_ | ((first | refine R_cond rfl (fun hq => ?_) fun hq => ?_ | refine R_guardT rfl rfl rfl (fun hq => ?_) fun hq => ?_ | refine R_guardF rfl rfl rfl (fun hq => ?_) fun hq => ?_ | refine D_guardT rfl rfl rfl (fun hq => ?_) fun hq => ?_ | refine D_guardF rfl rfl rfl (fun hq => ?_) fun hq => ?_) <;> (try rw [hq]) <;> first | have hp := of_decide_eq_true hq | have hp := of_decide_eq_false hq | have hp := of_decide_eq_false (not_t hq) | have hp := of_decide_eq_true (not_f hq) | have hp := hq))
  all_goals (first | refine H_two (by exact rfl) (by exact rfl) (by exact rfl) (by exact rfl) (by exact rfl) ?_ ?_ | skip)
  all_goals repeat' (first | refine R_clearTail tabOk rfl rfl rfl rfl rfl rfl rfl rfl rfl rfl rfl (hfl _) (by omega) ?_ | refine R_cutOwn tabOk rfl rfl rfl rfl rfl rfl rfl rfl (flat_tail (hfl _) rfl) (by simp; omega) ?_ | refine W_held mixed [] ?_ | refine go1 ?_ | refine goH ?_ | refine And.intro (by exact trivial) (idH ?_) | refine H_pop tabOk 0 (by exact rfl) (by exact rfl) (by exact rfl) (by exact rfl) (by exact trivial) (by exact rfl) (by exact rfl) (by exact rfl) (by exact rfl) (by exact trivial) ?_ | refine H_pop tabOk 1 (by exact rfl) (by exact rfl) (by exact rfl) (by exact rfl) (by exact trivial) (by exact rfl) (by exact rfl) (by exact rfl) (by exact rfl) (by exact trivial) ?_ | refine H_pop tabOk 2 (by exact rfl) (by exact rfl) (by exact rfl) (by exact rfl) (by exact trivial) (by exact rfl) (by exact rfl) (by exact rfl) (by exact rfl) (by exact trivial) ?_ | refine H_pop tabOk 3 (by exact rfl) (by exact rfl) (by exact rfl) (by exact rfl) (by exact trivial) (by exact rfl) (by exact rfl) (by exact rfl) (by exact rfl) (by exact trivial) ?_ | refine H_pop tabOk 4 (by exact rfl) (by exact rfl) (by exact rfl) (by exact rfl) (by exact trivial) (by exact rfl) (by exact rfl) (by exact rfl) (by exact rfl) (by exact trivial) ?_ | refine R_idxPart tabOk rfl rfl rfl rfl rfl (by omega) rfl (j2 := ((k + k2 : Nat) : Int)) (by omega) ?_ | refine R_idxPart tabOk rfl rfl rfl rfl rfl (by omega) rfl (j2 := ((k + k2 - 1 : Nat) : Int)) (by omega) ?_ | refine R_lenPart tabOk rfl rfl rfl (by omega) rfl (v := (l.length : Int) - k) (by omega) ?_ | refine R_estoreZ tabOk rfl rfl rfl rfl rfl rfl rfl (rowAt_nat (by omega)) rfl rfl (setAt_nat (v := nth cur (k + k2)) rfl) rfl ?_ | refine R_nes hE2 rfl rfl rfl ?_ | ((first | refine R_cond rfl (fun hq => ?_) fun hq => ?_ | refine R_guardT rfl rfl rfl (fun hq => ?_) fun hq => ?_ | refine R_guardF rfl rfl rfl (fun hq => ?_) fun hq => ?_ | refine D_guardT rfl rfl rfl (fun hq => ?_) fun hq => ?_ | refine D_guardF rfl rfl rfl (fun hq => ?_) fun hq => ?_) <;> (try rw [hq]) <;> first | have hp := of_decide_eq_true hq | have hp := of_decide_eq_false hq | have hp := of_decide_eq_false (not_t hq) | have hp := of_decide_eq_true (not_f hq) | have hp := hq))
  all_goals (first | refine H_two (by exact rfl) (by exact rfl) (by exact rfl) (by exact rfl) (by exact rfl) ?_ ?_ | skip)
  all_goals repeat' (first | refine R_clearTail tabOk rfl rfl rfl rfl rfl rfl rfl rfl rfl rfl rfl (hfl _) (by omega) ?_ | refine R_cutOwn tabOk rfl rfl rfl rfl rfl rfl rfl rfl (flat_tail (hfl _) rfl) (by simp; omega) ?_ | refine W_held mixed [] ?_ | refine go1 ?_ | refine goH ?_ | refine And.intro (by exact trivial) (idH ?_) | refine H_pop tabOk 0 (by exact rfl) (by exact rfl) (by exact rfl) (by exact rfl) (by exact trivial) (by exact rfl) (by exact rfl) (by exact rfl) (by exact rfl) (by exact trivial) ?_ | refine H_pop tabOk 1 (by exact rfl) (by exact rfl) (by exact rfl) (by exact rfl) (by exact trivial) (by exact rfl) (by exact rfl) (by exact rfl) (by exact rfl) (by exact trivial) ?_ | refine H_pop tabOk 2 (by exact rfl) (by exact rfl) (by exact rfl) (by exact rfl) (by exact trivial) (by exact rfl) (by exact rfl) (by exact rfl) (by exact rfl) (by exact trivial) ?_ | refine H_pop tabOk 3 (by exact rfl) (by exact rfl) (by exact rfl) (by exact rfl) (by exact trivial) (by exact rfl) (by exact rfl) (by exact rfl) (by exact rfl) (by exact trivial) ?_ | refine H_pop tabOk 4 (by exact rfl) (by exact rfl) (by exact rfl) (by exact rfl) (by exact trivial) (by exact rfl) (by exact rfl) (by exact rfl) (by exact rfl) (by exact trivial) ?_ | refine R_idxPart tabOk rfl rfl rfl rfl rfl (by omega) rfl (j2 := ((k + k2 : Nat) : Int)) (by omega) ?_ | refine R_idxPart tabOk rfl rfl rfl rfl rfl (by omega) rfl (j2 := ((k + k2 - 1 : Nat) : Int)) (by omega) ?_ | refine R_lenPart tabOk rfl rfl rfl (by omega) rfl (v := (l.length : Int) - k) (by omega) ?_ | refine R_estoreZ tabOk rfl rfl rfl rfl rfl rfl rfl (rowAt_nat (by omega)) rfl rfl (setAt_nat (v := nth cur (k + k2)) rfl) rfl ?_ | refine R_nes hE2 rfl rfl rfl ?_ | ((first | refine R_cond rfl (fun hq => ?_) fun hq => ?_ | refine R_guardT rfl rfl rfl (fun hq => ?_) fun hq => ?_ | refine R_guardF rfl rfl rfl (fun hq => ?_) fun hq => ?_ | refine D_guardT rfl rfl rfl (fun hq => ?_) fun hq => ?_ | refine D_guardF rfl rfl rfl (fun hq => ?_) fun hq => ?_) <;> (try rw [hq]) <;> first | have hp := of_decide_eq_true hq | have hp := of_decide_eq_false hq | have hp := of_decide_eq_false (not_t hq) | have hp := of_decide_eq_true (not_f hq) | have hp := hq))
  all_goals first
    | exact ⟨(cur.set r (nth cur (k + k2)), r + 1, k2 + 1), ⟨hI.yes (by omega) (by rw [← hs1 (by omega), ← hs2 (by omega)]; exact hp), by simp only; omega⟩, by simp only; omega, weakZ _⟩
    | exact ⟨(cur, r, k2 + 1), ⟨hI.no (by omega) (by rw [← hs1 (by omega), ← hs2 (by omega)]; exact hp), by simp only; omega⟩, by simp only; omega, weakZ _⟩
    | trace_state
end Go.Proofs.Ytcmedjlpaondjaa
