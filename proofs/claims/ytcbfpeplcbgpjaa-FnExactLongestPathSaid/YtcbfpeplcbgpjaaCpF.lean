/- slices.CompactFunc over arcs: what follows an arc with the same ends is struck out in place. No condition. -/
import Derived.Test.YtcbfpeplcbgpjaaMv
import Derived.Test.YtcbfpeplcbgpjaaSgc
import Derived.Test.YtcbfpeplcbgpjaaDrw
import Derived.Test.YtcbfpeplcbgpjaaAbsY
set_option linter.unusedSimpArgs false
set_option linter.unusedVariables false
set_option maxHeartbeats 2000000
namespace Go.Proofs.Ytcbfpeplcbgpjaa
open Go.ChangeShapes Go.WideShapes Go.ChangeAt Go.RowKit

section
variable {P : Program} {tab : Nat → Option TI} {w0 : World} {A : Nat → Prop} {n : Nat} {sl : List (Nat × D)} {hp : List Blk} {ops : Array Oper} {rest : List Oper} {K : St → Prop} {dst : Tmp} {ty : TypeId} {pos : String} {after : Array Edge}
theorem part_val {ms : List Ent} {a : Act} {w : World} (hr : Rel w0 A ms ⟨n, sl, hp⟩ a w) {x : Operand} {k m m' lo hi : Nat} {T : TypeId} {xs : List (List D)} {dp : Bool} (hx : evD (look sl) x = .part k m lo hi) (hb : hp[k]? = some (.arr T m' xs dp)) (hlt : lo < hi) :
    ∃ e g cap, ms[k]? = some e ∧ e.top = some g ∧ cap ≤ maxLen ∧ hi ≤ cap ∧ a.eval x = .slice (some ((⟨g, 0, none⟩ : Addr).add (lo * m))) (hi - lo) (cap - lo) := by
  obtain ⟨e, av, n0, c, hik, ev, ⟨b1, b2⟩, e2⟩ := (hr.ev_at hx).part_inv
  obtain ⟨us, bs, ⟨o0, o1⟩, o2, o3, o4, _⟩ := hr.ents k _ e hb hik
  rcases o1 with ⟨hv, h0⟩ | ⟨g, cap, cur, hv, _, _, c1, c2, _⟩
  · rw [hv] at ev; cases ev; omega
  · rw [hv] at ev; cases ev
    refine ⟨e, g, _, hik, by rw [o4, hv]; rfl, c2, by omega, ?_⟩
    rw [e2, if_neg (by omega)]; rfl
/-- The length of a part of an array of the call's own. -/
theorem R_lenPart (hT : TabOk P tab) {x : Operand} {t T T' : TypeId} {k m m' lo hi : Nat} {xs : List (List D)} {dp : Bool} {agg : Bool} {size bytes : Nat} {zero : List Value} (hx : evD (look sl) x = .part k m lo hi) (hb : hp[k]? = some (.arr T m' xs dp)) (ht : tab t = some ⟨.sl T', agg, size, bytes, zero⟩) (hlt : lo < hi) (hd : Nat.blt dst n = true)
    {v : Int} (hv : v = (hi : Int) - lo) (hK : WO P w0 A ops rest ⟨n, (dst, .lit (.int .i64 v)) :: sl, hp⟩ K) : WO P w0 A ops (⟨some dst, .call ⟨.builtin .len, #[x], #[t]⟩, ty, pos, after, none⟩ :: rest) ⟨n, sl, hp⟩ K := by
  refine ⟨fun ms a w hr Q hq => ?_⟩
  refine wpList_plain rfl fun Kn hKn => ?_
  obtain ⟨e, g, cap, _, _, h1, h2, h3⟩ := part_val hr hx hb hlt
  obtain ⟨inf, td, z, q1, q2, q3, q4, q5, q6, _⟩ := hT.get ht
  have htd := TK.sl_inv q4
  subst htd
  have hvv : v = ((hi - lo : Nat) : Int) := by omega
  have hrun : (execOp a.eval ⟨some dst, .call ⟨.builtin .len, #[x], #[t]⟩, ty, pos, after, none⟩).run P w = .ok (.value (.int .i64 v)) w := by
    rw [hvv]
    simp [execOp, resolve, invoke, builtin, Builtin.len_, Sem.run_bind, Sem.run, pure, Result.andThen, run_underlying q2, h3, goInt]
  unfold maxLen at h1
  exact upon_value hrun (hKn _ _ (hK.run ms _ w (Rel.put (t := some dst) hr (int_vx (litOk_i64.2 ⟨by omega, by omega⟩)) (dstOk_all (s := ⟨n, _, _⟩) (t := some dst) hd)) Q hq))
/-- The address of an element of a part of an array of the call's own. -/
theorem R_idxPart (hT : TabOk P tab) {x y : Operand} {t T : TypeId} {k m lo hi : Nat} {j : Int} {xs : List (List D)} {dp : Bool} {agg : Bool} {size bytes : Nat} {zero : List Value} {k' : TK} {agg' : Bool} {bytes' : Nat} {zero' : List Value} (hx : evD (look sl) x = .part k m lo hi) (hy : evD (look sl) y = .lit (.int .i64 j)) (hb : hp[k]? = some (.arr T m xs dp)) (ht : tab t = some ⟨.sl T, agg, size, bytes, zero⟩) (hT' : tab T = some ⟨k', agg', m, bytes', zero'⟩)
    (hj : 0 ≤ j ∧ j < (hi : Int) - lo) (hd : Nat.blt dst n = true) {j2 : Int} (hj2 : j2 = (lo : Int) + j) (hK : WO P w0 A ops rest ⟨n, (dst, .eptr k m j2 0) :: sl, hp⟩ K) : WO P w0 A ops (⟨some dst, .indexAddr t x y, ty, pos, after, none⟩ :: rest) ⟨n, sl, hp⟩ K := by
  refine ⟨fun ms a w hr Q hq => ?_⟩
  refine wpList_plain rfl fun Kn hKn => ?_
  obtain ⟨e, g, cap, hik, htop, h1, h2, h3⟩ := part_val hr hx hb (by omega)
  obtain ⟨inf, td, z, q1, q2, q3, q4, q5, q6, _⟩ := hT.get ht
  obtain ⟨inf', td', z', g1, g2, g3, g4, g5, g6, _⟩ := hT.get hT'
  have htd := TK.sl_inv q4
  subst htd
  obtain ⟨e2, _⟩ := (hr.ev_at hy).lit_inv
  have hjn : (j2).toNat = lo + j.toNat := by omega
  have hrun : (execOp a.eval ⟨some dst, .indexAddr t x y, ty, pos, after, none⟩).run P w = .ok (.value (.pointer (some ⟨g, j2.toNat * m + 0, none⟩))) w := by
    have hc : (0 ≤ j ∧ j < ((hi - lo : Nat) : Int)) := by omega
    simp only [execOp, Instr.indexAt, h3, e2, asIntOf, Sem.run_bind, Sem.run, pure, Result.andThen, run_underlying q2]
    simp only [hc, and_self, if_true, run_sizeOf g1, g6]
    rw [hjn, Nat.add_mul]
    simp only [Addr.add]
    by_cases ha : lo * m = 0 <;> by_cases hb : j.toNat * m = 0 <;> simp [ha, hb, run_sizeOf g1, g6]
  exact upon_value hrun (hKn _ _ (hK.run ms _ w (Rel.put (t := some dst) hr (.eptr hik htop) (dstOk_all (s := ⟨n, _, _⟩) (t := some dst) hd)) Q hq))
/-- The address of such an element, in a region that draws its order. -/
theorem H_idxPart {L : List (Tmp × Nat × Value)} {fuel : Nat} {listed : Array Bool} (hT : TabOk P tab) (k0 : Nat) {i : Nat} {t : Tmp} {x y : Operand} {tl T ty : TypeId} {pos : String} {after : Array Edge} {k m lo hi : Nat} {j : Int} {xs : List (List D)} {dp : Bool} {agg : Bool} {size bytes : Nat} {zero : List Value} {k' : TK} {agg' : Bool} {bytes' : Nat} {zero' : List Value} (hcd : cand ops listed k0 = some i) (hop : ops[i]? = some ⟨some t, .indexAddr tl x y, ty, pos, after, none⟩) (hs : noSel ops.toList = true) (hL : L.all (fun x => !Nat.beq x.1 t) = true) (hheld : heldOk ⟨n, sl, hp⟩ L) (htn : Nat.blt t n = true)
    (hx : evD (look sl) x = .part k m lo hi) (hy : evD (look sl) y = .lit (.int .i64 j)) (hb : hp[k]? = some (.arr T m xs dp)) (ht : tab tl = some ⟨.sl T, agg, size, bytes, zero⟩) (hT' : tab T = some ⟨k', agg', m, bytes', zero'⟩) (hj : 0 ≤ j ∧ j < (hi : Int) - lo) {j2 : Int} (hj2 : j2 = (lo : Int) + j)
    (h : WH P w0 A ops L fuel (listed.setIfInBounds i true) ⟨n, (t, .eptr k m j2 0) :: sl, hp⟩ K) : WH P w0 A ops L (fuel + 1) listed ⟨n, sl, hp⟩ K := by
  refine H_take' hop hs (cand_spec hcd).1 (cand_spec hcd).2 hL hheld htn (fun ms a w a0 hr ha => ?_) h
  obtain ⟨e, g, cap, hik, htop, h1, h2, h3⟩ := part_val hr hx hb (by omega)
  obtain ⟨inf, td, z, q1, q2, q3, q4, q5, q6, _⟩ := hT.get ht
  obtain ⟨inf', td', z', g1, g2, g3, g4, g5, g6, _⟩ := hT.get hT'
  have htd := TK.sl_inv q4
  subst htd
  obtain ⟨e2, _⟩ := (hr.ev_at hy).lit_inv
  have hjn : (j2).toNat = lo + j.toNat := by omega
  refine ⟨.pointer (some ⟨g, j2.toNat * m + 0, none⟩), fun w' _ => ?_, .eptr hik htop⟩
  have hc : (0 ≤ j ∧ j < ((hi - lo : Nat) : Int)) := by omega
  simp only [execOp, Instr.indexAt, h3, e2, asIntOf, Sem.run_bind, Sem.run, pure, Result.andThen, run_underlying q2]
  simp only [hc, and_self, if_true, run_sizeOf g1, g6]
  rw [hjn, Nat.add_mul]
  simp only [Addr.add]
  by_cases ha : lo * m = 0 <;> by_cases hb : j.toNat * m = 0 <;> simp [ha, hb, run_sizeOf g1, g6]
end

/-! ### The plain part -/
def eqA (x y : ArcD) : Bool := decide (x.src = y.src) && decide (x.dst = y.dst)
theorem eqA_iff {x y : ArcD} : eqA x y = true ↔ x.src = y.src ∧ x.dst = y.dst := by simp [eqA]
/-- The first k arcs, what equals its neighbour ahead struck out. -/
def daN (l : List ArcD) : Nat → List ArcD
  | 0 => []
  | k + 1 => if k = 0 ∨ eqA (nth l k) (nth l (k - 1)) = false then daN l k ++ [nth l k] else daN l k
theorem daN_len (l : List ArcD) : ∀ k, (daN l k).length ≤ k
  | 0 => by simp [daN]
  | k + 1 => by
    have := daN_len l k
    simp only [daN]; split <;> simp <;> omega
theorem daN_all {l : List ArcD} : ∀ {k : Nat}, k ≤ l.length → (∀ j, 0 < j → j < k → eqA (nth l j) (nth l (j - 1)) = false) → daN l k = l.take k
  | 0, _, _ => by simp [daN]
  | k + 1, hk, h => by
    rw [daN, daN_all (by omega) fun j h1 h2 => h j h1 (by omega), if_pos, take_nth (by omega)]
    by_cases e : k = 0
    · exact Or.inl e
    · exact Or.inr (h k (by omega) (by omega))
def daL (l : List ArcD) : List ArcD := daN l l.length
/-- The second loop: p arcs looked at, r kept. -/
structure CpaInv (l cur : List ArcD) (p r : Nat) : Prop where
  len : cur.length = l.length
  lt : r < p
  le : p ≤ l.length
  keep : cur.take r = daN l p
  same : ∀ q, p - 1 ≤ q → q < l.length → nth cur q = nth l q
theorem CpaInv.yes {l cur : List ArcD} {p r : Nat} (h : CpaInv l cur p r) (hp : p < l.length) (hne : eqA (nth l p) (nth l (p - 1)) = false) : CpaInv l (cur.set r (nth cur p)) (p + 1) (r + 1) := by
  have hl := h.len; have hlt := h.lt
  refine ⟨by simp [hl], by omega, by omega, ?_, fun q h1 h2 => ?_⟩
  · rw [daN, if_pos (Or.inr hne), ← h.keep, h.same p (by omega) hp]
    rw [take_nth (by simp; omega), List.take_set_of_le (Nat.le_refl _), nth_get (by simp; omega)]
    simp
  · rw [nth_get (by simp; omega), List.getElem_set_ne (by omega), ← nth_get (by omega)]
    exact h.same q (by omega) h2
theorem CpaInv.no {l cur : List ArcD} {p r : Nat} (h : CpaInv l cur p r) (hp : p < l.length) (he : eqA (nth l p) (nth l (p - 1)) = true) : CpaInv l cur (p + 1) r := by
  have hlt := h.lt
  refine ⟨h.len, by omega, by omega, ?_, fun q h1 h2 => h.same q (by omega) h2⟩
  rw [daN, if_neg, h.keep]
  rintro (h1 | h1)
  · omega
  · rw [he] at h1; exact Bool.noConfusion h1

/-- The ends that stand there, stand there still. -/
theorem da_mem (l : List ArcD) : ∀ k, k ≤ l.length → (∀ x ∈ daN l k, x ∈ l) ∧ ∀ j, j < k → ∃ x ∈ daN l k, eqA (nth l j) x = true
  | 0, _ => ⟨by simp [daN], fun j h => by omega⟩
  | k + 1, hk => by
    obtain ⟨h1, h2⟩ := da_mem l k (by omega)
    simp only [daN]
    split
    · refine ⟨fun x hx => ?_, fun j hj => ?_⟩
      · rcases List.mem_append.1 hx with hx | hx
        · exact h1 x hx
        · simp at hx; subst hx; exact nth_mem (by omega)
      · by_cases e : j = k
        · subst e; exact ⟨_, List.mem_append_right _ (by simp), eqA_iff.2 ⟨rfl, rfl⟩⟩
        · obtain ⟨x, hx, he⟩ := h2 j (by omega)
          exact ⟨x, List.mem_append_left _ hx, he⟩
    · rename_i hne
      refine ⟨h1, fun j hj => ?_⟩
      by_cases e : j = k
      · subst e
        have h0 : j ≠ 0 := fun e => hne (Or.inl e)
        have he : eqA (nth l j) (nth l (j - 1)) = true := by
          cases h : eqA (nth l j) (nth l (j - 1))
          · exact absurd (Or.inr h) hne
          · rfl
        obtain ⟨x, hx, he2⟩ := h2 (j - 1) (by omega)
        rw [eqA_iff] at he he2
        exact ⟨x, hx, eqA_iff.2 ⟨he.1.trans he2.1, he.2.trans he2.2⟩⟩
      · exact h2 j (by omega)
theorem sameEnds_f (x y : ArcD) : Fn Try.prog 114 [.agg (dArcD x), .agg (dArcD y)] (.lit (.bool (eqA x y))) [] := by
  refine Fn_of Try.func114 rfl (by kernel_rfl) rfl rfl ?_
  intro w0 A hin
  repeat' (first | refine goZ ?_ | ((first | refine R_cond rfl (fun hq => ?_) fun hq => ?_ | refine R_guardT rfl rfl rfl (fun hq => ?_) fun hq => ?_ | refine R_guardF rfl rfl rfl (fun hq => ?_) fun hq => ?_ | refine D_guardT rfl rfl rfl (fun hq => ?_) fun hq => ?_ | refine D_guardF rfl rfl rfl (fun hq => ?_) fun hq => ?_) <;> (try rw [hq]) <;> first | have hp := of_decide_eq_true hq | have hp := of_decide_eq_false hq | have hp := of_decide_eq_false (not_t hq) | have hp := of_decide_eq_true (not_f hq) | have hp := hq))
  all_goals exact ret_bool' rfl (by simp_all [eqA])

set_option maxHeartbeats 4000000 in
theorem CompactFunc_m (l : List ArcD) (hl : l.length ≤ 1000000) : FnM Try.prog 113 (.arr 148 4 (l.map dArcD) true) [.own 0, .fn 114 []] (.own 0) [.arr 148 4 ((daL l).map dArcD) true] := by
  refine FnM_of Try.func113 rfl (by kernel_rfl) rfl rfl rfl rfl rfl ?_
  intro w0 A R
  have hfl : ∀ l : List ArcD, Flat (l.map dArcD) := fun l => flat_map (by simp [dArcD, isLit])
  have hz := fun l => len_dArcD l
  have hz0 := hz l
  repeat' (first | refine goZ ?_ | ((first | refine R_cond rfl (fun hq => ?_) fun hq => ?_ | refine R_guardT rfl rfl rfl (fun hq => ?_) fun hq => ?_ | refine R_guardF rfl rfl rfl (fun hq => ?_) fun hq => ?_ | refine D_guardT rfl rfl rfl (fun hq => ?_) fun hq => ?_ | refine D_guardF rfl rfl rfl (fun hq => ?_) fun hq => ?_) <;> (try rw [hq]) <;> first | have hp := of_decide_eq_true hq | have hp := of_decide_eq_false hq | have hp := of_decide_eq_false (not_t hq) | have hp := of_decide_eq_true (not_f hq) | have hp := hq))
  · refine .r (ret_own rfl rfl ?_) rfl
    have h1 : l.length < 2 := by omega
    rw [daL, daN_all (Nat.le_refl _) fun j h2 h3 => by omega, List.take_length]
  refine W_loop (fun k : Nat => ⟨_, [(0, .own 0), (1, .fn 114 []), (5, .lit (.int .i64 k))], [.arr 148 4 (l.map dArcD) true, .cust R]⟩) (fun k => (1 ≤ k ∧ k ≤ l.length) ∧ ∀ j, 0 < j → j < k → eqA (nth l j) (nth l (j - 1)) = false) (fun k => l.length - k) 1 ⟨by omega, fun j h1 h2 => by omega⟩ (weakZ []) ?_
  rintro k ⟨⟨hk1, hk⟩, hj⟩
  have hE := sameEnds_f (nth l k) (nth l ((k : Int) - 1).toNat)
  have ek : ((k : Int) - 1).toNat = k - 1 := by omega
  repeat' (first | refine goZ ?_ | refine R_callZ rfl (hE) rfl rfl rfl ?_ | refine R_callvZ rfl (hE) rfl rfl rfl rfl ?_ | refine D_callZ rfl (hE) rfl rfl rfl ?_ | ((first | refine R_cond rfl (fun hq => ?_) fun hq => ?_ | refine R_guardT rfl rfl rfl (fun hq => ?_) fun hq => ?_ | refine R_guardF rfl rfl rfl (fun hq => ?_) fun hq => ?_ | refine D_guardT rfl rfl rfl (fun hq => ?_) fun hq => ?_ | refine D_guardF rfl rfl rfl (fun hq => ?_) fun hq => ?_) <;> (try rw [hq]) <;> first | have hp := of_decide_eq_true hq | have hp := of_decide_eq_false hq | have hp := of_decide_eq_false (not_t hq) | have hp := of_decide_eq_true (not_f hq) | have hp := hq))
  rotate_left
  · refine ⟨k + 1, ⟨⟨by omega, by omega⟩, fun j h1 h2 => ?_⟩, by omega, weakZ _⟩
    by_cases e : j = k
    · subst e
      rw [ek] at hq
      exact hq
    · exact hj j h1 (by omega)
  · refine .r (ret_own rfl rfl ?_) rfl
    have h1 : k = l.length := by omega
    rw [daL, daN_all (Nat.le_refl _) (by rw [← h1]; exact hj), List.take_length]
  have hlt : k < l.length := by omega
  have heq : eqA (nth l k) (nth l (k - 1)) = true := by rwa [ek] at hq
  refine W_loop (fun x : List ArcD × Nat × Nat => ⟨_, [(0, .own 0), (1, .fn 114 []), (5, .lit (.int .i64 x.2.1)), (6, .part 0 4 k (l.map dArcD).length), (7, .lit (.int .i64 x.2.2))], [.arr 148 4 (x.1.map dArcD) true, .cust R]⟩) (fun x => CpaInv l x.1 (k + x.2.2) x.2.1 ∧ 1 ≤ x.2.2) (fun x => l.length - (k + x.2.2)) (l, k, 1) ⟨⟨rfl, by simp only; omega, by simp only; omega, ?_, fun q _ _ => rfl⟩, by simp only; omega⟩ (weakZ []) ?_
  · simp only
    rw [daN, if_neg (by rintro (h | h); omega; rw [heq] at h; exact Bool.noConfusion h), daN_all (by omega) hj]
  rintro ⟨cur, r, k2⟩ ⟨hI, hk2⟩
  dsimp only at hI hk2 ⊢
  have hi1 := hI.lt
  have hi2 := hI.le
  have hi3 := hI.len
  have hi4 := hz cur
  have hE2 := sameEnds_f (nth cur (k + k2)) (nth cur (k + k2 - 1))
  have hs1 : k + k2 < l.length → nth cur (k + k2) = nth l (k + k2) := fun h => hI.same _ (by omega) h
  have hs2 : k + k2 < l.length → nth cur (k + k2 - 1) = nth l (k + k2 - 1) := fun h => hI.same _ (Nat.le_refl _) (by omega)
  repeat' (first | refine R_clearTail tabOk rfl rfl rfl rfl rfl rfl rfl rfl rfl rfl rfl (hfl _) (by omega) ?_ | refine R_cutOwn tabOk rfl rfl rfl rfl rfl rfl rfl rfl (flat_tail (hfl _) rfl) (by simp; omega) ?_ | refine W_held mixed [] ?_ | refine H_idxPart tabOk 0 (by exact rfl) (by exact rfl) (by exact rfl) (by exact rfl) (by exact trivial) (by exact rfl) (by exact rfl) (by exact rfl) (by exact rfl) (by exact rfl) (by exact rfl) (by omega) (j2 := ((k + k2 : Nat) : Int)) (by omega) ?_ | refine H_idxPart tabOk 0 (by exact rfl) (by exact rfl) (by exact rfl) (by exact rfl) (by exact trivial) (by exact rfl) (by exact rfl) (by exact rfl) (by exact rfl) (by exact rfl) (by exact rfl) (by omega) (j2 := ((k + k2 - 1 : Nat) : Int)) (by omega) ?_ | refine H_idxPart tabOk 1 (by exact rfl) (by exact rfl) (by exact rfl) (by exact rfl) (by exact trivial) (by exact rfl) (by exact rfl) (by exact rfl) (by exact rfl) (by exact rfl) (by exact rfl) (by omega) (j2 := ((k + k2 : Nat) : Int)) (by omega) ?_ | refine H_idxPart tabOk 1 (by exact rfl) (by exact rfl) (by exact rfl) (by exact rfl) (by exact trivial) (by exact rfl) (by exact rfl) (by exact rfl) (by exact rfl) (by exact rfl) (by exact rfl) (by omega) (j2 := ((k + k2 - 1 : Nat) : Int)) (by omega) ?_ | refine H_idxPart tabOk 2 (by exact rfl) (by exact rfl) (by exact rfl) (by exact rfl) (by exact trivial) (by exact rfl) (by exact rfl) (by exact rfl) (by exact rfl) (by exact rfl) (by exact rfl) (by omega) (j2 := ((k + k2 : Nat) : Int)) (by omega) ?_ | refine H_idxPart tabOk 2 (by exact rfl) (by exact rfl) (by exact rfl) (by exact rfl) (by exact trivial) (by exact rfl) (by exact rfl) (by exact rfl) (by exact rfl) (by exact rfl) (by exact rfl) (by omega) (j2 := ((k + k2 - 1 : Nat) : Int)) (by omega) ?_ | refine H_idxPart tabOk 3 (by exact rfl) (by exact rfl) (by exact rfl) (by exact rfl) (by exact trivial) (by exact rfl) (by exact rfl) (by exact rfl) (by exact rfl) (by exact rfl) (by exact rfl) (by omega) (j2 := ((k + k2 : Nat) : Int)) (by omega) ?_ | refine H_idxPart tabOk 3 (by exact rfl) (by exact rfl) (by exact rfl) (by exact rfl) (by exact trivial) (by exact rfl) (by exact rfl) (by exact rfl) (by exact rfl) (by exact rfl) (by exact rfl) (by omega) (j2 := ((k + k2 - 1 : Nat) : Int)) (by omega) ?_ | refine go1 ?_ | refine R_callZ rfl (hE2) rfl rfl rfl ?_ | refine R_callvZ rfl (hE2) rfl rfl rfl rfl ?_ | refine goH ?_ | refine And.intro (by exact trivial) (idH ?_) | refine H_pop tabOk 0 (by exact rfl) (by exact rfl) (by exact rfl) (by exact rfl) (by exact trivial) (by exact rfl) (by exact rfl) (by exact rfl) (by exact rfl) (by exact trivial) ?_ | refine H_pop tabOk 1 (by exact rfl) (by exact rfl) (by exact rfl) (by exact rfl) (by exact trivial) (by exact rfl) (by exact rfl) (by exact rfl) (by exact rfl) (by exact trivial) ?_ | refine H_pop tabOk 2 (by exact rfl) (by exact rfl) (by exact rfl) (by exact rfl) (by exact trivial) (by exact rfl) (by exact rfl) (by exact rfl) (by exact rfl) (by exact trivial) ?_ | refine H_pop tabOk 3 (by exact rfl) (by exact rfl) (by exact rfl) (by exact rfl) (by exact trivial) (by exact rfl) (by exact rfl) (by exact rfl) (by exact rfl) (by exact trivial) ?_ | refine H_two (by exact rfl) (by exact rfl) (by exact rfl) (by exact rfl) (by exact rfl) ?_ ?_ | refine R_idxPart tabOk rfl rfl rfl rfl rfl (by omega) rfl (j2 := ((k + k2 : Nat) : Int)) (by omega) ?_ | refine R_lenPart tabOk rfl rfl rfl (by omega) rfl (v := (l.length : Int) - k) (by omega) ?_ | refine R_estoreZ tabOk rfl rfl rfl rfl rfl rfl rfl (rowAt_nat (by omega)) rfl rfl (setAt_nat (v := nth cur (k + k2)) rfl) rfl ?_ | refine D_callZ rfl (hE2) rfl rfl rfl ?_ | ((first | refine R_cond rfl (fun hq => ?_) fun hq => ?_ | refine R_guardT rfl rfl rfl (fun hq => ?_) fun hq => ?_ | refine R_guardF rfl rfl rfl (fun hq => ?_) fun hq => ?_ | refine D_guardT rfl rfl rfl (fun hq => ?_) fun hq => ?_ | refine D_guardF rfl rfl rfl (fun hq => ?_) fun hq => ?_) <;> (try rw [hq]) <;> first | have hp := of_decide_eq_true hq | have hp := of_decide_eq_false hq | have hp := of_decide_eq_false (not_t hq) | have hp := of_decide_eq_true (not_f hq) | have hp := hq))
  all_goals first
    | (have hf : eqA (nth cur (k + k2)) (nth cur (k + k2 - 1)) = false := (by first | exact hq | (simpa using hq))
       exact ⟨(cur.set r (nth cur (k + k2)), r + 1, k2 + 1), ⟨hI.yes (by omega) (by rw [← hs1 (by omega), ← hs2 (by omega)]; exact hf), by simp only; omega⟩, by simp only; omega, weakZ _⟩)
    | (have hf : eqA (nth cur (k + k2)) (nth cur (k + k2 - 1)) = true := (by first | exact hq | (simpa using hq))
       exact ⟨(cur, r, k2 + 1), ⟨hI.no (by omega) (by rw [← hs1 (by omega), ← hs2 (by omega)]; exact hf), by simp only; omega⟩, by simp only; omega, weakZ _⟩)
    | (refine .r (ret_own rfl rfl ((cut_tail (f := dArcD) (by omega)).trans ?_)) rfl
       have hend : k + k2 = l.length := by omega
       rw [hI.keep, hend]; rfl)
end Go.Proofs.Ytcbfpeplcbgpjaa
