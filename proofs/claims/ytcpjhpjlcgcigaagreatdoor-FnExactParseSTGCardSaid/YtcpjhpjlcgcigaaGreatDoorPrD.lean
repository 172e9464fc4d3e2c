/- Reading lines: the program's reading of a text whose lines of signals and whose start are in order. No condition. -/
import Derived.Test.YtcpjhpjlcgcigaaGreatDoorPrB
import Derived.Test.YtcpjhpjlcgcigaaGreatDoorPrT
import Derived.Test.YtcpjhpjlcgcigaaGreatDoorPsG
set_option linter.unusedSimpArgs false
set_option linter.unusedVariables false
set_option maxHeartbeats 2000000
namespace Go.Proofs.YtcpjhpjlcgcigaaGreatDoor
open Go.ChangeShapes Go.WideShapes Go.ChangeAt Go.RowKit

theorem FormatSTG_h (s : Stg) (hst : s.start.size ≤ 1048576) : FnG XW Tryz.prog 18 [.agg (dStg s)] (.tup [.lit (.string (fmR s)), .lit (.bool (fmOk s))]) [] := by
  cases hg : goodStg s
  · have hV := IsValidSTG_f s hst
    rw [hg] at hV
    refine FnG_of Tryz.func18 rfl (by kernel_rfl) rfl rfl ?_
    intro w0 A hX hin
    repeat' (first | refine goZ ?_ | refine R_callZ rfl (hV) rfl rfl rfl ?_ | refine R_callvZ rfl (hV) rfl rfl rfl rfl ?_ | refine D_callZ rfl (hV) rfl rfl rfl ?_ | ((first | refine R_cond rfl (fun hq => ?_) fun hq => ?_ | refine R_guardT rfl rfl rfl (fun hq => ?_) fun hq => ?_ | refine R_guardF rfl rfl rfl (fun hq => ?_) fun hq => ?_ | refine D_guardT rfl rfl rfl (fun hq => ?_) fun hq => ?_ | refine D_guardF rfl rfl rfl (fun hq => ?_) fun hq => ?_) <;> (try rw [hq]) <;> first | have hp := of_decide_eq_true hq | have hp := of_decide_eq_false hq | have hp := of_decide_eq_false (not_t hq) | have hp := of_decide_eq_true (not_f hq) | have hp := hq))
    exact ret_lit2 rfl (by simp [fmR, fmOk, hg]) (by simp [fmOk, hg])
  · exact (FormatSTG_g s (goodSz hg).sz).mono fun _ h => h.kw
set_option maxHeartbeats 4000000 in
theorem Parse_good (t : ByteArray) (ht : t.size ≤ 1048576) (r : PR) (ls : List ByteArray) (c : Nat) (sg : List Sig) (st : ByteArray) (hne : ¬ t = ⟨#[]⟩) (a1 : 1 ≤ t.size) (a2 : t.size ≤ 4000) (a3 : bAt t ((t.size : Int) - 1) = 10) (hp2 : ls.length ≤ 4001) (hp3 : ∀ x ∈ ls, x.size ≤ 4000) (hlt : c < ls.length) (hsz : st.size ≤ 4000)
    (hS : FnG XW Tryz.prog 13 [.lit (.string (t.extract 0 ((t.size : Int) - 1).toNat)), .lit (.string ⟨#[10]⟩)] (.sh 1 (strs ls)) []) (hR : FnG XW Tryz.prog 14 [.sh 1 (strs ls)] (.tup [.own 0, .sh 1 (strs (ls.drop c))]) [.arr 71 2 (sg.map dSig) true])
    (hC : Fn Tryz.prog 15 [.lit (.string (nth (ls.drop c) 0)), .lit (.string ⟨#[115, 116, 97, 114, 116, 32]⟩)] (.tup [.lit (.string st), .lit (.bool true)]) []) (hN : Fn Tryz.prog 16 [.lit (.string st), .lit (.string ⟨#[32]⟩)] (.lit (.bool false)) [])
    (HG : Hid (linesS ls (c + 1) = some ⟨(st.size : Int), [], sg, [], st, 4⟩)) (HF : Hid (∀ k p, k < ls.length → linesS ls k = some p → lineS p (splitS (nth ls k) 32) = none → r = ⟨p0, 2, (k : Int) + 1, false⟩)) (HY : Hid (∀ p, linesS ls ls.length = some p → goodStg (stgP p) = true → fmtB (stgP p) p.trs.length = t → r = ⟨p, 0, 0, true⟩)) (HN : Hid (∀ p, linesS ls ls.length = some p → ¬ (goodStg (stgP p) = true ∧ fmtB (stgP p) p.trs.length = t) → r = ⟨p0, 3, 0, false⟩)) :
    FnG XW Tryz.prog 5 [.lit (.string t)] (dPR r) (bPR r) := by
  refine FnG_ofE tabOk Tryz.func5 rfl (by kernel_rfl) rfl rfl ?_
  intro w0 A hX hin
  have hz := len_strs ls
  have hzd : (strs (ls.drop c)).length = ls.length - c := by rw [len_strs, List.length_drop]
  have hzc : (ls.drop c).length = ls.length - c := List.length_drop
  repeat' (first | refine goZ ?_ | refine R_callZ rfl (hC) rfl rfl rfl ?_ | refine R_callZ rfl (hN) rfl rfl rfl ?_ | refine R_callvZ rfl (hC) rfl rfl rfl rfl ?_ | refine R_callvZ rfl (hN) rfl rfl rfl rfl ?_ | refine R_callG (fun _ h => hX.ext h) rfl hS rfl rfl rfl ?_ | refine R_callG (fun _ h => hX.ext h) rfl hR rfl rfl rfl ?_ | refine D_callZ rfl (hC) rfl rfl rfl ?_ | refine D_callZ rfl (hN) rfl rfl rfl ?_ | ((first | refine R_cond rfl (fun hq => ?_) fun hq => ?_ | refine R_guardT rfl rfl rfl (fun hq => ?_) fun hq => ?_ | refine R_guardF rfl rfl rfl (fun hq => ?_) fun hq => ?_ | refine D_guardT rfl rfl rfl (fun hq => ?_) fun hq => ?_ | refine D_guardF rfl rfl rfl (fun hq => ?_) fun hq => ?_) <;> (try rw [hq]) <;> first | have hp := of_decide_eq_true hq | have hp := of_decide_eq_false hq | have hp := of_decide_eq_false (not_t hq) | have hp := of_decide_eq_true (not_f hq) | have hp := hq))
  all_goals try (exfalso; first | contradiction | omega)
  refine W_openC 2 1 52 2 rfl rfl rfl ?_
  refine W_openC 2 3 49 2 rfl rfl rfl ?_
  have e81 : (strs (ls.drop c)).drop (Int.toNat 1) = strs (ls.drop (c + 1)) := by
    simp only [strs, ← List.map_drop, List.drop_drop]; rfl
  have e82 : (strs (ls.drop (c + 1))).length = (ls.drop (c + 1)).length := len_strs _
  have e10 : ((strs ls).length : Int) - ((strs (ls.drop c)).length : Int) + 1 = ((c + 1 : Nat) : Int) := by omega
  have hzq : (ls.drop (c + 1)).length = ls.length - (c + 1) := List.length_drop
  refine W_loop (fun x : Nat × PS => ⟨Tryz.f5.ntmps, [(0, .lit (.string t)), (2, .ptr 0 0), (7, .own 1), (9, .ptr 2 0), (10, .lit (.int .i64 (c + 1 : Nat))), (81, .sh 1 (strs (ls.drop (c + 1)))), (82, .lit (.int .i64 (ls.drop (c + 1)).length)), (83, .lit (.int .i64 x.1))], [.cells 28 [.lit (.int .i64 0), .nil, .nil, .nil, .lit (.string ⟨#[]⟩)], .arr 71 2 (x.2.sigs.map dSig) true, .cells 28 [.lit (.int .i64 x.2.places), .own 3, .own 1, .own 4, .lit (.string x.2.start)], .arr 52 2 (x.2.trs.map dTr) true, .arr 49 2 (x.2.labs.map dLab) true]⟩) (fun x => x.1 ≤ ls.length - (c + 1) ∧ linesS ls (c + 1 + x.1) = some x.2 ∧ x.2.kind = 4) (fun x => ls.length - x.1) (0, ⟨(st.size : Int), [], sg, [], st, 4⟩) ⟨Nat.zero_le _, HG.out, rfl⟩ ?_ ?_
  · simp only [e10, e81, e82]
    exact weakZ []
  clear hS hR hC hN
  rintro ⟨i, p⟩ ⟨hi, hp, hk⟩
  dsimp only at hi hp hk ⊢
  have hB := linesS_b hp3 _ p (by omega) hp
  have hpst := hB.st
  have hsrt := srt_of hB
  have HP := Lib.hid hp
  clear hp
  rcases Nat.lt_or_ge i (ls.length - (c + 1)) with hil | hig
  · have hn1 : nth (ls.drop (c + 1)) i = nth ls (c + 1 + i) := by
      rw [nth_get (by rw [List.length_drop]; omega), nth_get (by omega), List.getElem_drop]
    have hx1 := hp3 _ (nth_mem (show c + 1 + i < ls.length by omega))
    have hT := readTransition_f p.sigs (nth (ls.drop (c + 1)) i) (by rw [hn1]; exact hx1)
    have htr := transS_rt p (splitS (nth (ls.drop (c + 1)) i) 32) (splitS_pos _ _)
    have hln : lineS p (splitS (nth (ls.drop (c + 1)) i) 32) = transS p (splitS (nth (ls.drop (c + 1)) i) 32) := by rw [lineS, if_pos hk]
    rw [← hln] at htr
    have hfail : lineS p (splitS (nth (ls.drop (c + 1)) i) 32) = none → r = ⟨p0, 2, ((c + 1 + i : Nat) : Int) + 1, false⟩ := fun h => HF.out _ p (by omega) HP.out (by rw [← hn1]; exact h)
    have hnext : linesS ls (c + 1 + (i + 1)) = lineS p (splitS (nth (ls.drop (c + 1)) i) 32) := by rw [hn1]; exact linesS_some HP.out
    have hbt := hB.tr
    have hbl := hB.lb
    have hzt := len_dTr p.trs
    have hzl := len_dLab p.labs
    clear hln hB
    generalize hrt : rtS p.sigs (splitS (nth (ls.drop (c + 1)) i) 32) = rt at hT htr
    clear hrt
    generalize lineS p (splitS (nth (ls.drop (c + 1)) i) 32) = nx at htr hfail hnext
    obtain ⟨lb, pre, post, ok⟩ := rt
    cases ok
    · have HE := Lib.hid (hfail (by rw [htr]; simp))
      clear hfail htr hnext
      repeat' (first | refine goZ ?_ | refine R_callxGQ (fun _ h => hX.ext h) rfl hT rfl rfl rfl rfl ?_ | ((first | refine R_cond rfl (fun hq => ?_) fun hq => ?_ | refine R_guardT rfl rfl rfl (fun hq => ?_) fun hq => ?_ | refine R_guardF rfl rfl rfl (fun hq => ?_) fun hq => ?_ | refine D_guardT rfl rfl rfl (fun hq => ?_) fun hq => ?_ | refine D_guardF rfl rfl rfl (fun hq => ?_) fun hq => ?_) <;> (try rw [hq]) <;> first | have hp := of_decide_eq_true hq | have hp := of_decide_eq_false hq | have hp := of_decide_eq_false (not_t hq) | have hp := of_decide_eq_true (not_f hq) | have hp := hq))
      · exact .r (retE_none rfl HE.out rfl (congrArg (Value.int .i64) (by omega)) rfl)
      · exfalso; omega
    · have HNX : Hid (linesS ls (c + 1 + (i + 1)) = some (transP p lb ⟨true, pre, post⟩)) := Lib.hid (by rw [hnext, htr]; simp)
      clear hfail htr hnext
      repeat' (first | refine goZ ?_ | refine R_callxGQ (fun _ h => hX.ext h) rfl hT rfl rfl rfl rfl ?_ | ((first | refine R_cond rfl (fun hq => ?_) fun hq => ?_ | refine R_guardT rfl rfl rfl (fun hq => ?_) fun hq => ?_ | refine R_guardF rfl rfl rfl (fun hq => ?_) fun hq => ?_ | refine D_guardT rfl rfl rfl (fun hq => ?_) fun hq => ?_ | refine D_guardF rfl rfl rfl (fun hq => ?_) fun hq => ?_) <;> (try rw [hq]) <;> first | have hp := of_decide_eq_true hq | have hp := of_decide_eq_false hq | have hp := of_decide_eq_false (not_t hq) | have hp := of_decide_eq_true (not_f hq) | have hp := hq))
      all_goals try (exfalso; omega)
      refine W_weak (s' := ⟨Tryz.f5.ntmps, [(0, .lit (.string t)), (2, .ptr 0 0), (7, .own 1), (9, .ptr 2 0), (10, .lit (.int .i64 (c + 1 : Nat))), (15, .ptr 7 0), (16, .ptr 8 0), (81, .sh 1 (strs (ls.drop (c + 1)))), (82, .lit (.int .i64 (ls.drop (c + 1)).length)), (83, .lit (.int .i64 i))], [.cells 28 [.lit (.int .i64 0), .nil, .nil, .nil, .lit (.string ⟨#[]⟩)], .arr 71 2 (p.sigs.map dSig) true, .cells 28 [.lit (.int .i64 p.places), .own 3, .own 1, .own 4, .lit (.string p.start)], .arr 52 2 (p.trs.map dTr) true, .arr 49 2 (p.labs.map dLab) true, .arr 3 1 (ints pre) true, .arr 3 1 (ints post) true, .cells 49 [.lit (.int .i64 lb.sig), .lit (.bool lb.up)], .cells 52 [.own 5, .own 6]]⟩) (weakZ []) ?_
      refine W_pinO 3 2 1 rfl rfl rfl fun u3 h3 => ?_
      refine W_pinO 4 2 3 rfl rfl rfl fun u4 h4 => ?_
      refine W_pinO 5 8 0 rfl rfl rfl fun u5 h5 => ?_
      refine W_pinO 6 8 1 rfl rfl rfl fun u6 h6 => ?_
      refine W_weak (s' := ⟨Tryz.f5.ntmps, [(0, .lit (.string t)), (2, .ptr 0 0), (7, .own 1), (9, .ptr 2 0), (10, .lit (.int .i64 (c + 1 : Nat))), (15, .ptr 7 0), (16, .ptr 8 0), (81, .sh 1 (strs (ls.drop (c + 1)))), (82, .lit (.int .i64 (ls.drop (c + 1)).length)), (83, .lit (.int .i64 i))], [.cells 28 [.lit (.int .i64 0), .nil, .nil, .nil, .lit (.string ⟨#[]⟩)], .arr 71 2 (p.sigs.map dSig) true, .cells 28 [.lit (.int .i64 p.places), .lit u3, .own 1, .lit u4, .lit (.string p.start)], .cust (ArrU w0.heap.size u3 52 2 (p.trs.map dTr)), .cust (ArrU w0.heap.size u4 49 2 (p.labs.map dLab)), .cust (ArrU w0.heap.size u5 3 1 (ints pre)), .cust (ArrU w0.heap.size u6 3 1 (ints post)), .cells 49 [.lit (.int .i64 lb.sig), .lit (.bool lb.up)], .cells 52 [.lit u5, .lit u6]]⟩) (fun ms a w h => ⟨ms, h⟩) ?_
      refine W_midB ⟨Tryz.f5.ntmps, [(0, .lit (.string t)), (2, .ptr 0 0), (7, .own 1), (9, .ptr 2 0), (10, .lit (.int .i64 (c + 1 : Nat))), (81, .sh 1 (strs (ls.drop (c + 1)))), (82, .lit (.int .i64 (ls.drop (c + 1)).length)), (83, .lit (.int .i64 i))], [.cells 28 [.lit (.int .i64 0), .nil, .nil, .nil, .lit (.string ⟨#[]⟩)], .arr 71 2 (p.sigs.map dSig) true, .cells 28 [.lit (.int .i64 p.places), .own 3, .own 1, .own 4, .lit (.string p.start)], .arr 52 2 (p.trs.map dTr ++ [[.sh 1 (ints pre), .sh 1 (ints post)]]) true, .arr 49 2 (p.labs.map dLab ++ [[.lit (.int .i64 lb.sig), .lit (.bool lb.up)]]) true]⟩ ?_ ?_
      · refine W_heldT 12 mixed rfl rfl rfl [(9, 1, u3), (9, 3, u4), (15, 0, .int .i64 lb.sig), (15, 1, .bool lb.up), (16, 0, u5), (16, 1, u6)] ?_
        repeat' (first | refine goZ ?_ | refine And.intro (by exact ⟨rfl, rfl, rfl, rfl, rfl, rfl, trivial⟩) (idH ?_) | refine H_pop tabOk 0 (by exact rfl) (by exact rfl) (by exact rfl) (by exact rfl) (by exact ⟨rfl, rfl, rfl, rfl, rfl, rfl, trivial⟩) (by exact rfl) (by exact rfl) (by exact rfl) (by exact rfl) (by exact trivial) ?_ | refine H_load tabOk 0 (by exact rfl) (by exact rfl) (by exact rfl) (by exact rfl) (by exact ⟨rfl, rfl, rfl, rfl, rfl, rfl, trivial⟩) (by exact rfl) (by exact rfl) (by exact rfl) (by exact rfl) ?_ | refine H_load2 tabOk 0 (by exact rfl) (by exact rfl) (by exact rfl) (by exact rfl) (by exact ⟨rfl, rfl, rfl, rfl, rfl, rfl, trivial⟩) (by exact rfl) (by exact rfl) (by exact rfl) (by exact rfl) (by exact rfl) ?_ | refine H_pop tabOk 1 (by exact rfl) (by exact rfl) (by exact rfl) (by exact rfl) (by exact ⟨rfl, rfl, rfl, rfl, rfl, rfl, trivial⟩) (by exact rfl) (by exact rfl) (by exact rfl) (by exact rfl) (by exact trivial) ?_ | refine H_load tabOk 1 (by exact rfl) (by exact rfl) (by exact rfl) (by exact rfl) (by exact ⟨rfl, rfl, rfl, rfl, rfl, rfl, trivial⟩) (by exact rfl) (by exact rfl) (by exact rfl) (by exact rfl) ?_ | refine H_load2 tabOk 1 (by exact rfl) (by exact rfl) (by exact rfl) (by exact rfl) (by exact ⟨rfl, rfl, rfl, rfl, rfl, rfl, trivial⟩) (by exact rfl) (by exact rfl) (by exact rfl) (by exact rfl) (by exact rfl) ?_ | refine H_pop tabOk 2 (by exact rfl) (by exact rfl) (by exact rfl) (by exact rfl) (by exact ⟨rfl, rfl, rfl, rfl, rfl, rfl, trivial⟩) (by exact rfl) (by exact rfl) (by exact rfl) (by exact rfl) (by exact trivial) ?_ | refine H_load tabOk 2 (by exact rfl) (by exact rfl) (by exact rfl) (by exact rfl) (by exact ⟨rfl, rfl, rfl, rfl, rfl, rfl, trivial⟩) (by exact rfl) (by exact rfl) (by exact rfl) (by exact rfl) ?_ | refine H_load2 tabOk 2 (by exact rfl) (by exact rfl) (by exact rfl) (by exact rfl) (by exact ⟨rfl, rfl, rfl, rfl, rfl, rfl, trivial⟩) (by exact rfl) (by exact rfl) (by exact rfl) (by exact rfl) (by exact rfl) ?_ | ((first | refine R_cond rfl (fun hq => ?_) fun hq => ?_ | refine R_guardT rfl rfl rfl (fun hq => ?_) fun hq => ?_ | refine R_guardF rfl rfl rfl (fun hq => ?_) fun hq => ?_ | refine D_guardT rfl rfl rfl (fun hq => ?_) fun hq => ?_ | refine D_guardF rfl rfl rfl (fun hq => ?_) fun hq => ?_) <;> (try rw [hq]) <;> first | have hp := of_decide_eq_true hq | have hp := of_decide_eq_false hq | have hp := of_decide_eq_false (not_t hq) | have hp := of_decide_eq_true (not_f hq) | have hp := hq))
        repeat' (first | refine WO_unpin1 103 4 rfl rfl rfl ?_ | refine WO_unpin1 109 3 rfl rfl rfl ?_ | refine WO_unpinP 110 5 6 rfl rfl rfl rfl rfl ?_ | refine go1 ?_ | refine And.intro (by exact ⟨rfl, rfl, rfl, rfl, rfl, rfl, trivial⟩) (idH ?_) | refine H_pop tabOk 0 (by exact rfl) (by exact rfl) (by exact rfl) (by exact rfl) (by exact ⟨rfl, rfl, rfl, rfl, rfl, rfl, trivial⟩) (by exact rfl) (by exact rfl) (by exact rfl) (by exact rfl) (by exact trivial) ?_ | refine H_pop tabOk 1 (by exact rfl) (by exact rfl) (by exact rfl) (by exact rfl) (by exact ⟨rfl, rfl, rfl, rfl, rfl, rfl, trivial⟩) (by exact rfl) (by exact rfl) (by exact rfl) (by exact rfl) (by exact trivial) ?_ | refine H_done (by exact rfl) ?_ | refine H_one (by exact rfl) (by exact rfl) (by exact rfl) ?_ | refine H_two (by exact rfl) (by exact rfl) (by exact rfl) (by exact rfl) (by exact rfl) ?_ ?_ | ((first | refine R_cond rfl (fun hq => ?_) fun hq => ?_ | refine R_guardT rfl rfl rfl (fun hq => ?_) fun hq => ?_ | refine R_guardF rfl rfl rfl (fun hq => ?_) fun hq => ?_ | refine D_guardT rfl rfl rfl (fun hq => ?_) fun hq => ?_ | refine D_guardF rfl rfl rfl (fun hq => ?_) fun hq => ?_) <;> (try rw [hq]) <;> first | have hp := of_decide_eq_true hq | have hp := of_decide_eq_false hq | have hp := of_decide_eq_false (not_t hq) | have hp := of_decide_eq_true (not_f hq) | have hp := hq))
        all_goals exact midQ.n (weakZ _)
      · repeat' (first | refine goZ ?_ | ((first | refine R_cond rfl (fun hq => ?_) fun hq => ?_ | refine R_guardT rfl rfl rfl (fun hq => ?_) fun hq => ?_ | refine R_guardF rfl rfl rfl (fun hq => ?_) fun hq => ?_ | refine D_guardT rfl rfl rfl (fun hq => ?_) fun hq => ?_ | refine D_guardF rfl rfl rfl (fun hq => ?_) fun hq => ?_) <;> (try rw [hq]) <;> first | have hp := of_decide_eq_true hq | have hp := of_decide_eq_false hq | have hp := of_decide_eq_false (not_t hq) | have hp := of_decide_eq_true (not_f hq) | have hp := hq))
        refine ⟨(i + 1, transP p lb ⟨true, pre, post⟩), ⟨by dsimp only; omega, HNX.out, hk⟩, by dsimp only; omega, ?_⟩
        simp only [transP, List.map_append, List.map_cons, List.map_nil]
        exact weakZ []
  · have ei : c + 1 + i = ls.length := by omega
    have HQ : Hid (linesS ls ls.length = some p) := Lib.hid (by rw [← ei]; exact HP.out)
    have hFm := FormatSTG_h (stgP p) (Nat.le_trans hpst (by decide))
    cases hg : goodStg (stgP p)
    · have HE := Lib.hid (HN.out p HQ.out (by rw [hg]; simp))
      rw [show fmOk (stgP p) = false by simp [fmOk, hg]] at hFm
      clear hg hsrt
      repeat' (first | refine goZ ?_ | refine R_callxGQ (fun _ h => hX.ext h) rfl hFm rfl rfl rfl rfl ?_ | ((first | refine R_cond rfl (fun hq => ?_) fun hq => ?_ | refine R_guardT rfl rfl rfl (fun hq => ?_) fun hq => ?_ | refine R_guardF rfl rfl rfl (fun hq => ?_) fun hq => ?_ | refine D_guardT rfl rfl rfl (fun hq => ?_) fun hq => ?_ | refine D_guardF rfl rfl rfl (fun hq => ?_) fun hq => ?_) <;> (try rw [hq]) <;> first | have hp := of_decide_eq_true hq | have hp := of_decide_eq_false hq | have hp := of_decide_eq_false (not_t hq) | have hp := of_decide_eq_true (not_f hq) | have hp := hq))
      · exfalso; omega
      · exact .r (retE_none rfl HE.out rfl rfl rfl)
    · have e2 : fmOk (stgP p) = true := by
        have : srtB (stgP p).signals = true := hsrt
        simp [fmOk, hg, this]
      rw [show fmR (stgP p) = fmtB (stgP p) p.trs.length by rw [fmR, if_pos e2]; rfl, e2] at hFm
      have HE1 := Lib.hid (HY.out p HQ.out hg)
      have HE2 : Hid (¬ fmtB (stgP p) p.trs.length = t → r = ⟨p0, 3, 0, false⟩) := Lib.hid (fun h => HN.out p HQ.out (fun h2 => h h2.2))
      clear hg hsrt e2
      repeat' (first | refine goZ ?_ | refine R_callxGQ (fun _ h => hX.ext h) rfl hFm rfl rfl rfl rfl ?_ | ((first | refine R_cond rfl (fun hq => ?_) fun hq => ?_ | refine R_guardT rfl rfl rfl (fun hq => ?_) fun hq => ?_ | refine R_guardF rfl rfl rfl (fun hq => ?_) fun hq => ?_ | refine D_guardT rfl rfl rfl (fun hq => ?_) fun hq => ?_ | refine D_guardF rfl rfl rfl (fun hq => ?_) fun hq => ?_) <;> (try rw [hq]) <;> first | have hp := of_decide_eq_true hq | have hp := of_decide_eq_false hq | have hp := of_decide_eq_false (not_t hq) | have hp := of_decide_eq_true (not_f hq) | have hp := hq))
      all_goals try (exfalso; omega)
      · exact .r (retE_none rfl (HE2.out hp) rfl rfl rfl)
      · exact .r (retE_some (p := p) rfl rfl rfl rfl (by decide) (HE1.out hp))
end Go.Proofs.YtcpjhpjlcgcigaaGreatDoor
