/- Labels put in their places: spec.l10Put and what is built with it. No condition. -/
import Derived.Test.YtcmedjlpaondjaaKey
import Derived.Test.YtcmedjlpaondjaaDrw
import Derived.Test.YtcmedjlpaondjaaSgc
import Derived.Test.YtcmedjlpaondjaaIf
set_option linter.unusedSimpArgs false
set_option linter.unusedVariables false
set_option maxHeartbeats 2000000
namespace Go.Proofs.Ytcmedjlpaondjaa
open Go.ChangeShapes Go.WideShapes Go.ChangeAt Go.RowKit

section
variable {P : Program} {tab : Nat → Option TI} {w0 : World} {A : Nat → Prop} {n : Nat} {sl : List (Nat × D)} {hp : List Blk} {ops : Array Oper} {K : St → Prop} {Q : Exit → St → Prop}
/-- A load of two held cells at once. -/
theorem H_loadP2 (hT : TabOk P tab) (k0 : Nat) {L : List (Tmp × Nat × Value)} {fuel : Nat} {listed : Array Bool} {i : Nat} {t : Tmp} {x : Operand} {tl ty : TypeId} {pos : String} {after : Array Edge} {j : Nat} {va vb : Value} {k : TK} {bytes : Nat} {zero : List Value} (hcd : cand ops listed k0 = some i) (hi : ops[i]? = some ⟨some t, .load tl x, ty, pos, after, none⟩) (hs : noSel ops.toList = true) (hL : L.all (fun x => !Nat.beq x.1 t) = true) (hheld : heldOk ⟨n, sl, hp⟩ L) (htn : Nat.blt t n = true)
    (hx : evD (look sl) x = .ptr j 0) (ht : tab tl = some ⟨k, true, 2, bytes, zero⟩) (hva : heldAt ⟨n, sl, hp⟩ j 0 L = some va) (hvb : heldAt ⟨n, sl, hp⟩ j 1 L = some vb) (h : WH P w0 A ops L fuel (listed.setIfInBounds i true) ⟨n, (t, .agg [.lit va, .lit vb]) :: sl, hp⟩ K) : WH P w0 A ops L (fuel + 1) listed ⟨n, sl, hp⟩ K := by
  refine H_take' hi hs (cand_spec hcd).1 (cand_spec hcd).2 hL hheld htn (fun ms a w a0 hr ha => ?_) h
  obtain ⟨e, b, hi', ht', e1⟩ := (hr.ev_at hx).ptr_inv
  have one : ∀ {o : Nat} {v : Value}, heldAt ⟨n, sl, hp⟩ j o L = some v → litOk v ∧ ∀ w', HeldF L a0 w' → w'.cell? ⟨b, o, none⟩ = some v := by
    intro o v hv
    obtain ⟨y, hy, rfl, o0, hy1, rfl⟩ := heldAt_mem hv
    have h7 := hr.slots y.1
    rw [hy1] at h7
    obtain ⟨e', b', hi'', ht'', e2⟩ := h7.ptr_inv
    rw [hi'] at hi''; cases hi''
    rw [ht'] at ht''; cases ht''
    refine ⟨?_, fun w' hw' => hw' y hy b o0 (by rw [← ha y hy]; exact e2)⟩
    have : ∀ {l : List (Tmp × Nat × Value)}, heldOk ⟨n, sl, hp⟩ l → y ∈ l → cellAt ⟨n, sl, hp⟩ y.1 y.2.1 = some (.lit y.2.2) := by
      intro l
      induction l with
      | nil => intro _ h; simp at h
      | cons q l ih => intro h hm; rcases List.mem_cons.1 hm with rfl | hm; exact h.1; exact ih h.2 hm
    have h8 := this hheld hy
    unfold cellAt at h8
    rw [hy1] at h8
    simp only at h8
    split at h8
    · rename_i t' ds hh
      obtain ⟨b2, us, rfl, h9, h10⟩ := hr.ents j _ e hh hi'
      obtain ⟨u, _, h11⟩ := h10.get h8
      exact h11.lit_inv.2
    · simp at h8
  obtain ⟨l1, c1⟩ := one hva
  obtain ⟨l2, c2⟩ := one hvb
  refine ⟨.agg #[va, vb], fun w' hw' => ?_, .agg (us := [va, vb]) (.cons (VX.of_lit l1) (.cons (VX.of_lit l2) .nil))⟩
  have hld := loadVar_tab (P := P) hT ht w' b [va, vb] rfl (by
    intro q v hv
    match q with
    | 0 => simp at hv; subst hv; exact c1 w' hw'
    | 1 => simp at hv; subst hv; simpa using c2 w' hw'
    | q + 2 => simp at hv)
  have hld2 : (Instr.loadAt tl (.pointer (some ⟨b, 0, none⟩))).run P w' = .ok (.agg #[va, vb]) w' := by
    simp only [Instr.loadAt, Instr.sureAddr, Sem.run_bind, Sem.run, Result.andThen, pure]; exact hld
  simp only [execOp, e1, Sem.run_bind, hld2, Result.andThen]; rfl
/-- W_held at a region of so many operations. -/
theorem W_heldN (c : Nat) (hm : P.follows .mixedOrders = true) {l : List Oper} {id : Nat} (hc : Nat.beq l.length c = true) (L : List (Tmp × Nat × Value)) (h : WH P w0 A l.toArray L l.length (Array.replicate l.length false) ⟨n, sl, hp⟩ fun s => Q .normal s) : W P w0 A (.region id l.toArray true) ⟨n, sl, hp⟩ Q := W_held hm L h
end

theorem l10Before_f (a b : Lab) : Fn Try.prog 153 [.agg (dLab a), .agg (dLab b)] (.lit (.bool (decide (keyL a < keyL b)))) [] := by
  refine Fn_of Try.func153 rfl (by kernel_rfl) rfl rfl ?_
  intro w0 A hin
  obtain ⟨a1, a2⟩ := a; obtain ⟨b1, b2⟩ := b
  cases a2 <;> cases b2 <;> (repeat' (first | refine goZ ?_ | ((first | refine R_cond rfl (fun hq => ?_) fun hq => ?_ | refine R_guardT rfl rfl rfl (fun hq => ?_) fun hq => ?_ | refine R_guardF rfl rfl rfl (fun hq => ?_) fun hq => ?_ | refine D_guardT rfl rfl rfl (fun hq => ?_) fun hq => ?_ | refine D_guardF rfl rfl rfl (fun hq => ?_) fun hq => ?_) <;> (try rw [hq]) <;> first | have hp := of_decide_eq_true hq | have hp := of_decide_eq_false hq | have hp := of_decide_eq_false (not_t hq) | have hp := of_decide_eq_true (not_f hq) | have hp := hq)))
  all_goals exact ret_bool' rfl (by simp [keyL] at *; omega)

set_option maxHeartbeats 4000000 in
theorem l10Put_m (l : List Lab) (x : Lab) (hz : l.length ≤ 4000000) : FnM Try.prog 111 (.arr 96 2 (l.map dLab) true) [.own 0, .agg (dLab x)] (.own 0) [.arr 96 2 ((putLb l x).map dLab) true] := by
  refine FnM_of Try.func111 rfl (by kernel_rfl) rfl rfl rfl rfl rfl ?_
  intro w0 A R
  have hl := len_dLab l
  have hfl : ∀ l : List Lab, Flat (l.map dLab) := fun l => flat_map (by simp [dLab, isLit])
  repeat' (first | refine goZ ?_ | ((first | refine R_cond rfl (fun hq => ?_) fun hq => ?_ | refine R_guardT rfl rfl rfl (fun hq => ?_) fun hq => ?_ | refine R_guardF rfl rfl rfl (fun hq => ?_) fun hq => ?_ | refine D_guardT rfl rfl rfl (fun hq => ?_) fun hq => ?_ | refine D_guardF rfl rfl rfl (fun hq => ?_) fun hq => ?_) <;> (try rw [hq]) <;> first | have hp := of_decide_eq_true hq | have hp := of_decide_eq_false hq | have hp := of_decide_eq_false (not_t hq) | have hp := of_decide_eq_true (not_f hq) | have hp := hq))
  refine W_loop (fun k : Nat => ⟨_, [(0, .own 0), (3, .ptr 2 0), (5, .lit (.int .i64 k))], [.arr 96 2 (l.map dLab) true, .cust R, .cells 96 (dLab x)]⟩) (fun k => k ≤ l.length ∧ ∀ j, j < k → keyL (nth l j) < keyL x) (fun k => l.length - k) 0 ⟨Nat.zero_le _, fun j hj => by omega⟩ (weakZ []) ?_
  rintro k ⟨hk, hj⟩
  have hE := eq_Lab (nth l k) x
  repeat' (first | refine W_heldN 11 mixed rfl [(3, 0, .int .i64 x.sig), (3, 1, .bool x.up)] ?_ | refine W_drawAt 10 mixed tabOk rfl rfl rfl ?_ | refine go1 ?_ | refine R_callZ rfl (l10Before_f _ _) rfl rfl rfl ?_ | refine R_callvZ rfl (l10Before_f _ _) rfl rfl rfl rfl ?_ | refine goH ?_ | refine And.intro (by exact ⟨rfl, rfl, trivial⟩) (idH ?_) | refine H_pop tabOk 0 (by exact rfl) (by exact rfl) (by exact rfl) (by exact rfl) (by exact ⟨rfl, rfl, trivial⟩) (by exact rfl) (by exact rfl) (by exact rfl) (by exact rfl) (by exact trivial) ?_ | refine H_loadP2 tabOk 0 (by exact rfl) (by exact rfl) (by exact rfl) (by exact rfl) (by exact ⟨rfl, rfl, trivial⟩) (by exact rfl) (by exact rfl) (by exact rfl) (by exact rfl) (by exact rfl) ?_ | refine H_pop tabOk 1 (by exact rfl) (by exact rfl) (by exact rfl) (by exact rfl) (by exact ⟨rfl, rfl, trivial⟩) (by exact rfl) (by exact rfl) (by exact rfl) (by exact rfl) (by exact trivial) ?_ | refine H_loadP2 tabOk 1 (by exact rfl) (by exact rfl) (by exact rfl) (by exact rfl) (by exact ⟨rfl, rfl, trivial⟩) (by exact rfl) (by exact rfl) (by exact rfl) (by exact rfl) (by exact rfl) ?_ | refine H_pop tabOk 2 (by exact rfl) (by exact rfl) (by exact rfl) (by exact rfl) (by exact ⟨rfl, rfl, trivial⟩) (by exact rfl) (by exact rfl) (by exact rfl) (by exact rfl) (by exact trivial) ?_ | refine H_loadP2 tabOk 2 (by exact rfl) (by exact rfl) (by exact rfl) (by exact rfl) (by exact ⟨rfl, rfl, trivial⟩) (by exact rfl) (by exact rfl) (by exact rfl) (by exact rfl) (by exact rfl) ?_ | refine H_pop tabOk 3 (by exact rfl) (by exact rfl) (by exact rfl) (by exact rfl) (by exact ⟨rfl, rfl, trivial⟩) (by exact rfl) (by exact rfl) (by exact rfl) (by exact rfl) (by exact trivial) ?_ | refine H_loadP2 tabOk 3 (by exact rfl) (by exact rfl) (by exact rfl) (by exact rfl) (by exact ⟨rfl, rfl, trivial⟩) (by exact rfl) (by exact rfl) (by exact rfl) (by exact rfl) (by exact rfl) ?_ | refine R_eqs hE rfl rfl rfl ?_ | refine R_appendOwn tabOk rfl rfl rfl rfl rfl rfl rfl rfl rfl rfl rfl rfl (flat_part (hfl _)) (by simp; omega) ?_ | refine D_callZ rfl (l10Before_f _ _) rfl rfl rfl ?_ | ((first | refine R_cond rfl (fun hq => ?_) fun hq => ?_ | refine R_guardT rfl rfl rfl (fun hq => ?_) fun hq => ?_ | refine R_guardF rfl rfl rfl (fun hq => ?_) fun hq => ?_ | refine D_guardT rfl rfl rfl (fun hq => ?_) fun hq => ?_ | refine D_guardF rfl rfl rfl (fun hq => ?_) fun hq => ?_) <;> (try rw [hq]) <;> first | have hp := of_decide_eq_true hq | have hp := of_decide_eq_false hq | have hp := of_decide_eq_false (not_t hq) | have hp := of_decide_eq_true (not_f hq) | have hp := hq))
  · exact ⟨k + 1, ⟨by omega, fun j hj' => by by_cases e : j = k; (rw [e]; assumption); exact hj j (by omega)⟩, by omega, weakZ _⟩
  · have h1 : k < l.length := by omega
    have h2 : nth l k = x := by simpa [h1, hl] using hp
    exact .r (ret_own rfl rfl (by rw [putLb_same h1 hj h2])) rfl
  · have h1 : k < l.length := by omega
    have h2 : ¬ nth l k = x := by simpa [h1, hl] using hp
    have h3 : keyL x < keyL (nth l k) := by
      have h4 : ¬ keyL (nth l k) = keyL x := fun h => h2 (keyL_inj h)
      omega
    have hrow := (putLb_rows l x k).trans (by rw [← putLb_new hk hj fun _ => h3])
    all_goals (first | refine H_three (by exact rfl) (by exact rfl) (by exact rfl) (by exact rfl) (by exact rfl) (by exact rfl) (by exact rfl) ?_ ?_ ?_ | refine H_two (by exact rfl) (by exact rfl) (by exact rfl) (by exact rfl) (by exact rfl) ?_ ?_)
    all_goals repeat' (first | refine goZ ?_ | refine goH ?_ | refine And.intro (by exact ⟨rfl, rfl, trivial⟩) (idH ?_) | refine R_appendOwn tabOk rfl rfl rfl rfl rfl rfl rfl rfl rfl rfl rfl rfl (flat_part (hfl _)) (by simp; omega) ?_ | ((first | refine R_cond rfl (fun hq => ?_) fun hq => ?_ | refine R_guardT rfl rfl rfl (fun hq => ?_) fun hq => ?_ | refine R_guardF rfl rfl rfl (fun hq => ?_) fun hq => ?_ | refine D_guardT rfl rfl rfl (fun hq => ?_) fun hq => ?_ | refine D_guardF rfl rfl rfl (fun hq => ?_) fun hq => ?_) <;> (try rw [hq]) <;> first | have hp := of_decide_eq_true hq | have hp := of_decide_eq_false hq | have hp := of_decide_eq_false (not_t hq) | have hp := of_decide_eq_true (not_f hq) | have hp := hq))
    all_goals (try exact .r (ret_own rfl rfl hrow) rfl)
    all_goals (first | refine H_three (by exact rfl) (by exact rfl) (by exact rfl) (by exact rfl) (by exact rfl) (by exact rfl) (by exact rfl) ?_ ?_ ?_ | refine H_two (by exact rfl) (by exact rfl) (by exact rfl) (by exact rfl) (by exact rfl) ?_ ?_)
    all_goals repeat' (first | refine goZ ?_ | refine goH ?_ | refine And.intro (by exact ⟨rfl, rfl, trivial⟩) (idH ?_) | refine R_appendOwn tabOk rfl rfl rfl rfl rfl rfl rfl rfl rfl rfl rfl rfl (flat_part (hfl _)) (by simp; omega) ?_ | ((first | refine R_cond rfl (fun hq => ?_) fun hq => ?_ | refine R_guardT rfl rfl rfl (fun hq => ?_) fun hq => ?_ | refine R_guardF rfl rfl rfl (fun hq => ?_) fun hq => ?_ | refine D_guardT rfl rfl rfl (fun hq => ?_) fun hq => ?_ | refine D_guardF rfl rfl rfl (fun hq => ?_) fun hq => ?_) <;> (try rw [hq]) <;> first | have hp := of_decide_eq_true hq | have hp := of_decide_eq_false hq | have hp := of_decide_eq_false (not_t hq) | have hp := of_decide_eq_true (not_f hq) | have hp := hq))
    all_goals (try exact .r (ret_own rfl rfl hrow) rfl)
    all_goals (first | refine H_three (by exact rfl) (by exact rfl) (by exact rfl) (by exact rfl) (by exact rfl) (by exact rfl) (by exact rfl) ?_ ?_ ?_ | refine H_two (by exact rfl) (by exact rfl) (by exact rfl) (by exact rfl) (by exact rfl) ?_ ?_)
    all_goals repeat' (first | refine goZ ?_ | refine goH ?_ | refine And.intro (by exact ⟨rfl, rfl, trivial⟩) (idH ?_) | refine R_appendOwn tabOk rfl rfl rfl rfl rfl rfl rfl rfl rfl rfl rfl rfl (flat_part (hfl _)) (by simp; omega) ?_ | ((first | refine R_cond rfl (fun hq => ?_) fun hq => ?_ | refine R_guardT rfl rfl rfl (fun hq => ?_) fun hq => ?_ | refine R_guardF rfl rfl rfl (fun hq => ?_) fun hq => ?_ | refine D_guardT rfl rfl rfl (fun hq => ?_) fun hq => ?_ | refine D_guardF rfl rfl rfl (fun hq => ?_) fun hq => ?_) <;> (try rw [hq]) <;> first | have hp := of_decide_eq_true hq | have hp := of_decide_eq_false hq | have hp := of_decide_eq_false (not_t hq) | have hp := of_decide_eq_true (not_f hq) | have hp := hq))
    all_goals (try exact .r (ret_own rfl rfl hrow) rfl)
  · have hrow := (putLb_rows l x k).trans (by rw [← putLb_new hk hj fun h => by omega])
    all_goals (first | refine H_three (by exact rfl) (by exact rfl) (by exact rfl) (by exact rfl) (by exact rfl) (by exact rfl) (by exact rfl) ?_ ?_ ?_ | refine H_two (by exact rfl) (by exact rfl) (by exact rfl) (by exact rfl) (by exact rfl) ?_ ?_)
    all_goals repeat' (first | refine goZ ?_ | refine goH ?_ | refine And.intro (by exact ⟨rfl, rfl, trivial⟩) (idH ?_) | refine R_appendOwn tabOk rfl rfl rfl rfl rfl rfl rfl rfl rfl rfl rfl rfl (flat_part (hfl _)) (by simp; omega) ?_ | ((first | refine R_cond rfl (fun hq => ?_) fun hq => ?_ | refine R_guardT rfl rfl rfl (fun hq => ?_) fun hq => ?_ | refine R_guardF rfl rfl rfl (fun hq => ?_) fun hq => ?_ | refine D_guardT rfl rfl rfl (fun hq => ?_) fun hq => ?_ | refine D_guardF rfl rfl rfl (fun hq => ?_) fun hq => ?_) <;> (try rw [hq]) <;> first | have hp := of_decide_eq_true hq | have hp := of_decide_eq_false hq | have hp := of_decide_eq_false (not_t hq) | have hp := of_decide_eq_true (not_f hq) | have hp := hq))
    all_goals (try exact .r (ret_own rfl rfl hrow) rfl)
    all_goals (first | refine H_three (by exact rfl) (by exact rfl) (by exact rfl) (by exact rfl) (by exact rfl) (by exact rfl) (by exact rfl) ?_ ?_ ?_ | refine H_two (by exact rfl) (by exact rfl) (by exact rfl) (by exact rfl) (by exact rfl) ?_ ?_)
    all_goals repeat' (first | refine goZ ?_ | refine goH ?_ | refine And.intro (by exact ⟨rfl, rfl, trivial⟩) (idH ?_) | refine R_appendOwn tabOk rfl rfl rfl rfl rfl rfl rfl rfl rfl rfl rfl rfl (flat_part (hfl _)) (by simp; omega) ?_ | ((first | refine R_cond rfl (fun hq => ?_) fun hq => ?_ | refine R_guardT rfl rfl rfl (fun hq => ?_) fun hq => ?_ | refine R_guardF rfl rfl rfl (fun hq => ?_) fun hq => ?_ | refine D_guardT rfl rfl rfl (fun hq => ?_) fun hq => ?_ | refine D_guardF rfl rfl rfl (fun hq => ?_) fun hq => ?_) <;> (try rw [hq]) <;> first | have hp := of_decide_eq_true hq | have hp := of_decide_eq_false hq | have hp := of_decide_eq_false (not_t hq) | have hp := of_decide_eq_true (not_f hq) | have hp := hq))
    all_goals (try exact .r (ret_own rfl rfl hrow) rfl)
    all_goals (first | refine H_three (by exact rfl) (by exact rfl) (by exact rfl) (by exact rfl) (by exact rfl) (by exact rfl) (by exact rfl) ?_ ?_ ?_ | refine H_two (by exact rfl) (by exact rfl) (by exact rfl) (by exact rfl) (by exact rfl) ?_ ?_)
    all_goals repeat' (first | refine goZ ?_ | refine goH ?_ | refine And.intro (by exact ⟨rfl, rfl, trivial⟩) (idH ?_) | refine R_appendOwn tabOk rfl rfl rfl rfl rfl rfl rfl rfl rfl rfl rfl rfl (flat_part (hfl _)) (by simp; omega) ?_ | ((first | refine R_cond rfl (fun hq => ?_) fun hq => ?_ | refine R_guardT rfl rfl rfl (fun hq => ?_) fun hq => ?_ | refine R_guardF rfl rfl rfl (fun hq => ?_) fun hq => ?_ | refine D_guardT rfl rfl rfl (fun hq => ?_) fun hq => ?_ | refine D_guardF rfl rfl rfl (fun hq => ?_) fun hq => ?_) <;> (try rw [hq]) <;> first | have hp := of_decide_eq_true hq | have hp := of_decide_eq_false hq | have hp := of_decide_eq_false (not_t hq) | have hp := of_decide_eq_true (not_f hq) | have hp := hq))
    all_goals (try exact .r (ret_own rfl rfl hrow) rfl)
end Go.Proofs.Ytcmedjlpaondjaa
