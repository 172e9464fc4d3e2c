/- A place struck out: what the program's function hands back. No condition. -/
import Derived.Test.YtcbfpeplcbgpjaaRmL
import Derived.Test.YtcbfpeplcbgpjaaRowb
import Derived.Test.YtcbfpeplcbgpjaaRen
set_option linter.unusedSimpArgs false
set_option linter.unusedVariables false
set_option maxHeartbeats 2000000
namespace Go.Proofs.Ytcbfpeplcbgpjaa
open Go.ChangeShapes Go.WideShapes Go.ChangeAt Go.RowKit

set_option maxHeartbeats 4000000 in
theorem RemovePlace_f (s : Stg) (p : Int) (hz : szStg s ≤ 1048576) : Fn Try.prog 37 [.agg (dStg s), .lit (.int .i64 p)] (.tup [.agg [.lit (.int .i64 (rmR s p).net.places), .own 0, .own 1, .own 2, .lit (.string (rmR s p).start)], .lit (.bool (rmB s p))]) [.arr 88 2 ((rmR s p).net.trs.map dTr) true, .arr 132 2 ((rmR s p).signals.map dSig) true, .arr 105 2 ((rmR s p).labels.map dLab) true] := by
  refine Fn_ofC tabOk Try.func37 rfl (by kernel_rfl) rfl rfl ?_
  intro w0 A hin
  have hp64 := given_int hin (i := 1) rfl
  have hzs := len_dSig s.signals
  have hzl := len_dLab s.labels
  have hst : s.start.size ≤ 1048576 := by have := start_le s; omega
  have hU := UnusedPlaces_f s hst
  cases hg : goodStg s <;> rw [hg] at hU
  · have hb : rmB s p = false := by simp [rmB, hg]
    have hr := rmR_no hb
    repeat' (first | refine goZ ?_ | refine R_callZ rfl (hU) rfl rfl rfl ?_ | refine R_callvZ rfl (hU) rfl rfl rfl rfl ?_ | refine D_callZ rfl (hU) rfl rfl rfl ?_ | ((first | refine R_cond rfl (fun hq => ?_) fun hq => ?_ | refine R_guardT rfl rfl rfl (fun hq => ?_) fun hq => ?_ | refine R_guardF rfl rfl rfl (fun hq => ?_) fun hq => ?_ | refine D_guardT rfl rfl rfl (fun hq => ?_) fun hq => ?_ | refine D_guardF rfl rfl rfl (fun hq => ?_) fun hq => ?_) <;> (try rw [hq]) <;> first | have hp := of_decide_eq_true hq | have hp := of_decide_eq_false hq | have hp := of_decide_eq_false (not_t hq) | have hp := of_decide_eq_true (not_f hq) | have hp := hq))
    all_goals exact .r (retC_nil3t rfl (by rw [hr]; rfl) (by rw [hr]; rfl) (by rw [hb]) (by rw [hr]; rfl) (by rw [hr]; rfl) (by rw [hr]; rfl))
  obtain ⟨hN, hs1, hs2, _⟩ := stg_ok hg hz
  have hC := Contains_Int_f (unuL s) p
  cases hm : decide (p ∈ unuL s) <;> rw [hm] at hC
  · have hb : rmB s p = false := by simp [rmB, hm]
    have hr := rmR_no hb
    repeat' (first | refine goZ ?_ | refine R_callZ rfl (hU) rfl rfl rfl ?_ | refine R_callZ rfl (hC) rfl rfl rfl ?_ | refine R_callvZ rfl (hU) rfl rfl rfl rfl ?_ | refine R_callvZ rfl (hC) rfl rfl rfl rfl ?_ | refine D_callZ rfl (hU) rfl rfl rfl ?_ | refine D_callZ rfl (hC) rfl rfl rfl ?_ | ((first | refine R_cond rfl (fun hq => ?_) fun hq => ?_ | refine R_guardT rfl rfl rfl (fun hq => ?_) fun hq => ?_ | refine R_guardF rfl rfl rfl (fun hq => ?_) fun hq => ?_ | refine D_guardT rfl rfl rfl (fun hq => ?_) fun hq => ?_ | refine D_guardF rfl rfl rfl (fun hq => ?_) fun hq => ?_) <;> (try rw [hq]) <;> first | have hp := of_decide_eq_true hq | have hp := of_decide_eq_false hq | have hp := of_decide_eq_false (not_t hq) | have hp := of_decide_eq_true (not_f hq) | have hp := hq))
    all_goals exact .r (retC_nil3t rfl (by rw [hr]; rfl) (by rw [hr]; rfl) (by rw [hb]) (by rw [hr]; rfl) (by rw [hr]; rfl) (by rw [hr]; rfl))
  cases h2 : decide (2 ≤ s.net.places)
  · have hb : rmB s p = false := by simp [rmB, h2]
    have hr := rmR_no hb
    have h2' := of_decide_eq_false h2
    repeat' (first | refine goZ ?_ | refine R_callZ rfl (hU) rfl rfl rfl ?_ | refine R_callZ rfl (hC) rfl rfl rfl ?_ | refine R_callvZ rfl (hU) rfl rfl rfl rfl ?_ | refine R_callvZ rfl (hC) rfl rfl rfl rfl ?_ | refine D_callZ rfl (hU) rfl rfl rfl ?_ | refine D_callZ rfl (hC) rfl rfl rfl ?_ | ((first | refine R_cond rfl (fun hq => ?_) fun hq => ?_ | refine R_guardT rfl rfl rfl (fun hq => ?_) fun hq => ?_ | refine R_guardF rfl rfl rfl (fun hq => ?_) fun hq => ?_ | refine D_guardT rfl rfl rfl (fun hq => ?_) fun hq => ?_ | refine D_guardF rfl rfl rfl (fun hq => ?_) fun hq => ?_) <;> (try rw [hq]) <;> first | have hp := of_decide_eq_true hq | have hp := of_decide_eq_false hq | have hp := of_decide_eq_false (not_t hq) | have hp := of_decide_eq_true (not_f hq) | have hp := hq))
    all_goals first
      | exact .r (retC_nil3t rfl (by rw [hr]; rfl) (by rw [hr]; rfl) (by rw [hb]) (by rw [hr]; rfl) (by rw [hr]; rfl) (by rw [hr]; rfl))
      | (exfalso; omega)
  have hb : rmB s p = true := by simp [rmB, hg, hm, h2]
  have hr := rmR_yes hb
  have h2' := of_decide_eq_true h2
  obtain ⟨⟨hp1, hp2⟩, hp3⟩ := (unu_mem hg p).1 (of_decide_eq_true hm)
  have hpl := hN.places
  have hss : (s.start.size : Int) = s.net.places := by
    have h' := hg
    simp only [goodStg, goodMark, bitsB, Bool.and_eq_true, decide_eq_true_eq] at h'
    omega
  have hx1 : (s.start.extract 0 p.toNat).size ≤ 1048576 := by rw [ByteArray.size_extract]; omega
  have hx2 : (s.start.extract (p + 1).toNat s.start.size).size ≤ 1048576 := by rw [ByteArray.size_extract]; omega
  repeat' (first | refine W_drawTS mixed tabOk rfl rfl rfl ?_ | refine go1 ?_ | refine R_callZ rfl (hU) rfl rfl rfl ?_ | refine R_callZ rfl (hC) rfl rfl rfl ?_ | refine R_callZ rfl (copySTG_f s hN hs1 hs2) rfl rfl rfl ?_ | refine R_callvZ rfl (hU) rfl rfl rfl rfl ?_ | refine R_callvZ rfl (hC) rfl rfl rfl rfl ?_ | refine R_callvZ rfl (copySTG_f s hN hs1 hs2) rfl rfl rfl rfl ?_ | refine D_callZ rfl (hU) rfl rfl rfl ?_ | refine D_callZ rfl (hC) rfl rfl rfl ?_ | refine D_callZ rfl (copySTG_f s hN hs1 hs2) rfl rfl rfl ?_ | ((first | refine R_cond rfl (fun hq => ?_) fun hq => ?_ | refine R_guardT rfl rfl rfl (fun hq => ?_) fun hq => ?_ | refine R_guardF rfl rfl rfl (fun hq => ?_) fun hq => ?_ | refine D_guardT rfl rfl rfl (fun hq => ?_) fun hq => ?_ | refine D_guardF rfl rfl rfl (fun hq => ?_) fun hq => ?_) <;> (try rw [hq]) <;> first | have hp := of_decide_eq_true hq | have hp := of_decide_eq_false hq | have hp := of_decide_eq_false (not_t hq) | have hp := of_decide_eq_true (not_f hq) | have hp := hq))
  · exfalso; simp_all; omega
  have hzt := len_dTr s.net.trs
  refine W_weak (s' := ⟨Try.f37.ntmps, [(1, .lit (.int .i64 p)), (4, .ptr 0 0), (8, .ptr 1 0), (56, .own 2), (57, .lit (.int .i64 s.net.trs.length)), (58, .lit (.int .i64 0))], [.cells 69 [.lit (.int .i64 0), .nil, .nil, .nil, .lit (.string ⟨#[]⟩)], .cells 69 [.lit (.int .i64 (s.net.places - 1)), .own 2, .own 3, .own 4, .lit (.string (s.start.extract 0 p.toNat ++ s.start.extract (p + 1).toNat s.start.size))], .arr 88 2 (s.net.trs.map dTr) true, .arr 132 2 (s.signals.map dSig) true, .arr 105 2 (s.labels.map dLab) true]⟩) (by
    refine Weak_ren2 [some 1, some 6, some 3, some 4, some 5] rfl rfl ?_ ?_
    · repeat' (first | exact trivial | rfl | refine And.intro ?_ ?_)
    · rw [hzt]
      repeat' (first | exact trivial | rfl | refine And.intro ?_ ?_)) ?_
  refine W_shallowT 2 rfl rfl rfl fun ps hps => ?_
  refine W_loop (fun t : Nat => ⟨_, [(1, .lit (.int .i64 p)), (4, .ptr 0 0), (8, .ptr 1 0), (56, .own 2), (57, .lit (.int .i64 s.net.trs.length)), (58, .lit (.int .i64 t))], [.cells 69 [.lit (.int .i64 0), .nil, .nil, .nil, .lit (.string ⟨#[]⟩)], .cells 69 [.lit (.int .i64 (s.net.places - 1)), .own 2, .own 3, .own 4, .lit (.string (s.start.extract 0 p.toNat ++ s.start.extract (p + 1).toNat s.start.size))], .arr 88 2 (ps.map dP) true, .arr 132 2 (s.signals.map dSig) true, .arr 105 2 (s.labels.map dLab) true, .cust (RowsT ps (upR (lessT p) s.net.trs t))]⟩) (fun t => t ≤ s.net.trs.length) (fun t => s.net.trs.length - t) 0 (Nat.zero_le _) (by rw [upR_zero]; exact weakZ []) ?_
  intro t ht
  have hlp : (ps.map dP).length = ps.length := by simp
  rcases Nat.lt_or_ge t s.net.trs.length with hlt | hge
  rotate_left
  · have et : t = s.net.trs.length := by omega
    subst et
    rw [upR_all]
    refine W_deepT (hp := [.cells 69 [.lit (.int .i64 0), .nil, .nil, .nil, .lit (.string ⟨#[]⟩)], .cells 69 [.lit (.int .i64 (s.net.places - 1)), .own 2, .own 3, .own 4, .lit (.string (s.start.extract 0 p.toNat ++ s.start.extract (p + 1).toNat s.start.size))], .arr 88 2 (ps.map dP) true, .arr 132 2 (s.signals.map dSig) true, .arr 105 2 (s.labels.map dLab) true]) 2 rfl (by simpa using hps) rfl rfl ?_
    repeat' (first | refine goZ ?_ | ((first | refine R_cond rfl (fun hq => ?_) fun hq => ?_ | refine R_guardT rfl rfl rfl (fun hq => ?_) fun hq => ?_ | refine R_guardF rfl rfl rfl (fun hq => ?_) fun hq => ?_ | refine D_guardT rfl rfl rfl (fun hq => ?_) fun hq => ?_ | refine D_guardF rfl rfl rfl (fun hq => ?_) fun hq => ?_) <;> (try rw [hq]) <;> first | have hp := of_decide_eq_true hq | have hp := of_decide_eq_false hq | have hp := of_decide_eq_false (not_t hq) | have hp := of_decide_eq_true (not_f hq) | have hp := hq))
    all_goals first
      | exact .r (retC_own3t rfl rfl rfl rfl (by simp) (by rw [hr]; try rfl) (by rw [hr]; try rfl) (by rw [hb]) (by rw [hr]; try rfl) (by rw [hr]; try rfl) (by rw [hr]; try rfl))
      | (exfalso; omega)
  have e1 : ps = ps.take t ++ nth ps t :: ps.drop (t + 1) := by
    rw [nth_get (by omega), List.getElem_cons_drop, List.take_append_drop]
  have e2 : upR (lessT p) s.net.trs t = (s.net.trs.take t).map (lessT p) ++ nth s.net.trs t :: s.net.trs.drop (t + 1) := by
    rw [upR, nth_get (by omega), List.getElem_cons_drop]
  have eR : RowsT ps (upR (lessT p) s.net.trs t) = RowsT (ps.take t ++ nth ps t :: ps.drop (t + 1)) ((s.net.trs.take t).map (lessT p) ++ nth s.net.trs t :: s.net.trs.drop (t + 1)) := by rw [← e1, ← e2]
  rw [eR]
  refine W_takeT 5 rfl (by simp; omega) rfl rfl ?_
  refine W_factU 6 rfl fun a1 c1 hu1 hg1 => ?_
  refine W_factU 7 rfl fun a2 c2 hu2 hg2 => ?_
  refine W_weak (s' := ⟨Try.f37.ntmps, [(1, .lit (.int .i64 p)), (4, .ptr 0 0), (8, .ptr 1 0), (56, .own 2), (57, .lit (.int .i64 s.net.trs.length)), (58, .lit (.int .i64 t))], [.cells 69 [.lit (.int .i64 0), .nil, .nil, .nil, .lit (.string ⟨#[]⟩)], .cells 69 [.lit (.int .i64 (s.net.places - 1)), .own 2, .own 3, .own 4, .lit (.string (s.start.extract 0 p.toNat ++ s.start.extract (p + 1).toNat s.start.size))], .arr 88 2 (ps.map dP) true, .arr 132 2 (s.signals.map dSig) true, .arr 105 2 (s.labels.map dLab) true, .cust (RowsT (ps.take t ++ ps.drop (t + 1)) ((s.net.trs.take t).map (lessT p) ++ s.net.trs.drop (t + 1))), .cust (RowU (nth ps t).1 (nth s.net.trs t).pre), .cust (RowU (nth ps t).2 (nth s.net.trs t).post)]⟩) (fun ms a w h => ⟨ms, h⟩) ?_
  repeat' (first | refine goZ ?_ | ((first | refine R_cond rfl (fun hq => ?_) fun hq => ?_ | refine R_guardT rfl rfl rfl (fun hq => ?_) fun hq => ?_ | refine R_guardF rfl rfl rfl (fun hq => ?_) fun hq => ?_ | refine D_guardT rfl rfl rfl (fun hq => ?_) fun hq => ?_ | refine D_guardF rfl rfl rfl (fun hq => ?_) fun hq => ?_) <;> (try rw [hq]) <;> first | have hp := of_decide_eq_true hq | have hp := of_decide_eq_false hq | have hp := of_decide_eq_false (not_t hq) | have hp := of_decide_eq_true (not_f hq) | have hp := hq))
  rotate_left
  · exfalso; omega
  rw [hu1, hu2]
  have hrw := hN.row _ (nth_mem hlt)
  have hNl := hN.len
  have hrl := hrw.1; have hr1 := hrw.2.1; have hr2 := hrw.2.2
  refine W_loop (fun j : Nat => ⟨_, [(1, .lit (.int .i64 p)), (4, .ptr 0 0), (8, .ptr 1 0), (56, .own 2), (57, .lit (.int .i64 s.net.trs.length)), (58, .lit (.int .i64 t)), (66, .own 9), (67, .lit (.int .i64 2)), (68, .lit (.int .i64 j))], [.cells 69 [.lit (.int .i64 0), .nil, .nil, .nil, .lit (.string ⟨#[]⟩)], .cells 69 [.lit (.int .i64 (s.net.places - 1)), .own 2, .own 3, .own 4, .lit (.string (s.start.extract 0 p.toNat ++ s.start.extract (p + 1).toNat s.start.size))], .arr 88 2 (ps.map dP) true, .arr 132 2 (s.signals.map dSig) true, .arr 105 2 (s.labels.map dLab) true, .cust (RowsT (ps.take t ++ ps.drop (t + 1)) ((s.net.trs.take t).map (lessT p) ++ s.net.trs.drop (t + 1))), .cust (RowU (.slice a1 (nth s.net.trs t).pre.length c1) (if 1 ≤ j then (nth s.net.trs t).pre.map (lessI p) else (nth s.net.trs t).pre)), .cust (RowU (.slice a2 (nth s.net.trs t).post.length c2) (if 2 ≤ j then (nth s.net.trs t).post.map (lessI p) else (nth s.net.trs t).post)), .cells 88 [.lit (.slice a1 (nth s.net.trs t).pre.length c1), .lit (.slice a2 (nth s.net.trs t).post.length c2)], .arr 78 1 [[.lit (.slice a1 (nth s.net.trs t).pre.length c1)], [.lit (.slice a2 (nth s.net.trs t).post.length c2)]] true]⟩) (fun j => j ≤ 2) (fun j => 2 - j) 0 (Nat.zero_le _) (by rw [if_neg (by omega), if_neg (by omega)]; exact weakZ []) ?_
  intro j hj
  have hj3 : j = 0 ∨ j = 1 ∨ j = 2 := by omega
  rcases hj3 with rfl | rfl | rfl
  · rw [if_neg (show ¬ 1 ≤ 0 by omega), if_neg (show ¬ 2 ≤ 0 by omega)]
    have hl2 : ([[D.lit (Value.slice a1 (nth s.net.trs t).pre.length c1)], [D.lit (Value.slice a2 (nth s.net.trs t).post.length c2)]] : List (List D)).length = 2 := rfl
    repeat' (first | refine goZ ?_ | refine R_lenLit tabOk rfl rfl (by omega) rfl ?_ | refine R_eload tabOk rfl rfl rfl (r := [.lit (.slice a1 (nth s.net.trs t).pre.length c1)]) ⟨by omega, rfl⟩ rfl rfl ?_ | ((first | refine R_cond rfl (fun hq => ?_) fun hq => ?_ | refine R_guardT rfl rfl rfl (fun hq => ?_) fun hq => ?_ | refine R_guardF rfl rfl rfl (fun hq => ?_) fun hq => ?_ | refine D_guardT rfl rfl rfl (fun hq => ?_) fun hq => ?_ | refine D_guardF rfl rfl rfl (fun hq => ?_) fun hq => ?_) <;> (try rw [hq]) <;> first | have hp := of_decide_eq_true hq | have hp := of_decide_eq_false hq | have hp := of_decide_eq_false (not_t hq) | have hp := of_decide_eq_true (not_f hq) | have hp := hq))
    refine W_loop (fun i : Nat => ⟨_, [(1, .lit (.int .i64 p)), (4, .ptr 0 0), (8, .ptr 1 0), (56, .own 2), (57, .lit (.int .i64 s.net.trs.length)), (58, .lit (.int .i64 t)), (66, .own 9), (67, .lit (.int .i64 2)), (68, .lit (.int .i64 0)), (12, .lit (.slice a1 (nth s.net.trs t).pre.length c1)), (72, .lit (.slice a1 (nth s.net.trs t).pre.length c1)), (73, .lit (.int .i64 (nth s.net.trs t).pre.length)), (74, .lit (.int .i64 i))], [.cells 69 [.lit (.int .i64 0), .nil, .nil, .nil, .lit (.string ⟨#[]⟩)], .cells 69 [.lit (.int .i64 (s.net.places - 1)), .own 2, .own 3, .own 4, .lit (.string (s.start.extract 0 p.toNat ++ s.start.extract (p + 1).toNat s.start.size))], .arr 88 2 (ps.map dP) true, .arr 132 2 (s.signals.map dSig) true, .arr 105 2 (s.labels.map dLab) true, .cust (RowsT (ps.take t ++ ps.drop (t + 1)) ((s.net.trs.take t).map (lessT p) ++ s.net.trs.drop (t + 1))), .cust (RowU (.slice a1 (nth s.net.trs t).pre.length c1) (upR (lessI p) (nth s.net.trs t).pre i)), .cust (RowU (.slice a2 (nth s.net.trs t).post.length c2) (nth s.net.trs t).post), .cells 88 [.lit (.slice a1 (nth s.net.trs t).pre.length c1), .lit (.slice a2 (nth s.net.trs t).post.length c2)], .arr 78 1 [[.lit (.slice a1 (nth s.net.trs t).pre.length c1)], [.lit (.slice a2 (nth s.net.trs t).post.length c2)]] true]⟩) (fun i => i ≤ (nth s.net.trs t).pre.length) (fun i => (nth s.net.trs t).pre.length - i) 0 (Nat.zero_le _) (by rw [upR_zero]; exact weakZ []) ?_
    intro i hi
    have hxl := upR_len (lessI p) (nth s.net.trs t).pre i
    rcases Nat.lt_or_ge i (nth s.net.trs t).pre.length with hlt2 | hge2
    · obtain ⟨g, o, ea⟩ := hg1 (by omega)
      subst ea
      have hxn := upR_nth (f := lessI p) hlt2
      have hxb := hr1 _ (nth_mem hlt2)
      repeat' (first | refine goZ ?_ | refine R_idxLit tabOk rfl rfl rfl rfl (by omega) rfl ?_ | refine R_loadU tabOk 6 (j := i) rfl rfl rfl (by simp) (by omega) rfl ?_ | refine R_storeU tabOk 6 (j := i) rfl rfl rfl rfl (by simp) (by omega) rfl ?_ | ((first | refine R_cond rfl (fun hq => ?_) fun hq => ?_ | refine R_guardT rfl rfl rfl (fun hq => ?_) fun hq => ?_ | refine R_guardF rfl rfl rfl (fun hq => ?_) fun hq => ?_ | refine D_guardT rfl rfl rfl (fun hq => ?_) fun hq => ?_ | refine D_guardF rfl rfl rfl (fun hq => ?_) fun hq => ?_) <;> (try rw [hq]) <;> first | have hp := of_decide_eq_true hq | have hp := of_decide_eq_false hq | have hp := of_decide_eq_false (not_t hq) | have hp := of_decide_eq_true (not_f hq) | have hp := hq))
      all_goals first
        | (exfalso; omega)
        | (refine ⟨i + 1, by omega, by omega, ?_⟩
           rw [hxn, upR_step hlt2 (by rw [lessI, if_pos (by omega)])]
           exact weakZ _)
        | (refine ⟨i + 1, by omega, by omega, ?_⟩
           rw [upR_same hlt2 (by rw [lessI, if_neg (by omega)])]
           exact weakZ _)

    · have ei : i = (nth s.net.trs t).pre.length := by omega
      subst ei
      rw [upR_all]
      repeat' (first | refine goZ ?_ | ((first | refine R_cond rfl (fun hq => ?_) fun hq => ?_ | refine R_guardT rfl rfl rfl (fun hq => ?_) fun hq => ?_ | refine R_guardF rfl rfl rfl (fun hq => ?_) fun hq => ?_ | refine D_guardT rfl rfl rfl (fun hq => ?_) fun hq => ?_ | refine D_guardF rfl rfl rfl (fun hq => ?_) fun hq => ?_) <;> (try rw [hq]) <;> first | have hp := of_decide_eq_true hq | have hp := of_decide_eq_false hq | have hp := of_decide_eq_false (not_t hq) | have hp := of_decide_eq_true (not_f hq) | have hp := hq))
      all_goals first
        | (exfalso; omega)
        | exact ⟨1, by omega, by omega, by first | exact weakZ _ | exact weakZ []⟩

  · rw [if_pos (show 1 ≤ 1 by omega), if_neg (show ¬ 2 ≤ 1 by omega)]
    have hl2 : ([[D.lit (Value.slice a1 (nth s.net.trs t).pre.length c1)], [D.lit (Value.slice a2 (nth s.net.trs t).post.length c2)]] : List (List D)).length = 2 := rfl
    repeat' (first | refine goZ ?_ | refine R_lenLit tabOk rfl rfl (by omega) rfl ?_ | refine R_eload tabOk rfl rfl rfl (r := [.lit (.slice a2 (nth s.net.trs t).post.length c2)]) ⟨by omega, rfl⟩ rfl rfl ?_ | ((first | refine R_cond rfl (fun hq => ?_) fun hq => ?_ | refine R_guardT rfl rfl rfl (fun hq => ?_) fun hq => ?_ | refine R_guardF rfl rfl rfl (fun hq => ?_) fun hq => ?_ | refine D_guardT rfl rfl rfl (fun hq => ?_) fun hq => ?_ | refine D_guardF rfl rfl rfl (fun hq => ?_) fun hq => ?_) <;> (try rw [hq]) <;> first | have hp := of_decide_eq_true hq | have hp := of_decide_eq_false hq | have hp := of_decide_eq_false (not_t hq) | have hp := of_decide_eq_true (not_f hq) | have hp := hq))
    refine W_loop (fun i : Nat => ⟨_, [(1, .lit (.int .i64 p)), (4, .ptr 0 0), (8, .ptr 1 0), (56, .own 2), (57, .lit (.int .i64 s.net.trs.length)), (58, .lit (.int .i64 t)), (66, .own 9), (67, .lit (.int .i64 2)), (68, .lit (.int .i64 1)), (12, .lit (.slice a2 (nth s.net.trs t).post.length c2)), (72, .lit (.slice a2 (nth s.net.trs t).post.length c2)), (73, .lit (.int .i64 (nth s.net.trs t).post.length)), (74, .lit (.int .i64 i))], [.cells 69 [.lit (.int .i64 0), .nil, .nil, .nil, .lit (.string ⟨#[]⟩)], .cells 69 [.lit (.int .i64 (s.net.places - 1)), .own 2, .own 3, .own 4, .lit (.string (s.start.extract 0 p.toNat ++ s.start.extract (p + 1).toNat s.start.size))], .arr 88 2 (ps.map dP) true, .arr 132 2 (s.signals.map dSig) true, .arr 105 2 (s.labels.map dLab) true, .cust (RowsT (ps.take t ++ ps.drop (t + 1)) ((s.net.trs.take t).map (lessT p) ++ s.net.trs.drop (t + 1))), .cust (RowU (.slice a1 (nth s.net.trs t).pre.length c1) ((nth s.net.trs t).pre.map (lessI p))), .cust (RowU (.slice a2 (nth s.net.trs t).post.length c2) (upR (lessI p) (nth s.net.trs t).post i)), .cells 88 [.lit (.slice a1 (nth s.net.trs t).pre.length c1), .lit (.slice a2 (nth s.net.trs t).post.length c2)], .arr 78 1 [[.lit (.slice a1 (nth s.net.trs t).pre.length c1)], [.lit (.slice a2 (nth s.net.trs t).post.length c2)]] true]⟩) (fun i => i ≤ (nth s.net.trs t).post.length) (fun i => (nth s.net.trs t).post.length - i) 0 (Nat.zero_le _) (by rw [upR_zero]; exact weakZ []) ?_
    intro i hi
    have hxl := upR_len (lessI p) (nth s.net.trs t).post i
    rcases Nat.lt_or_ge i (nth s.net.trs t).post.length with hlt2 | hge2
    · obtain ⟨g, o, ea⟩ := hg2 (by omega)
      subst ea
      have hxn := upR_nth (f := lessI p) hlt2
      have hxb := hr2 _ (nth_mem hlt2)
      repeat' (first | refine goZ ?_ | refine R_idxLit tabOk rfl rfl rfl rfl (by omega) rfl ?_ | refine R_loadU tabOk 7 (j := i) rfl rfl rfl (by simp) (by omega) rfl ?_ | refine R_storeU tabOk 7 (j := i) rfl rfl rfl rfl (by simp) (by omega) rfl ?_ | ((first | refine R_cond rfl (fun hq => ?_) fun hq => ?_ | refine R_guardT rfl rfl rfl (fun hq => ?_) fun hq => ?_ | refine R_guardF rfl rfl rfl (fun hq => ?_) fun hq => ?_ | refine D_guardT rfl rfl rfl (fun hq => ?_) fun hq => ?_ | refine D_guardF rfl rfl rfl (fun hq => ?_) fun hq => ?_) <;> (try rw [hq]) <;> first | have hp := of_decide_eq_true hq | have hp := of_decide_eq_false hq | have hp := of_decide_eq_false (not_t hq) | have hp := of_decide_eq_true (not_f hq) | have hp := hq))
      all_goals first
        | (exfalso; omega)
        | (refine ⟨i + 1, by omega, by omega, ?_⟩
           rw [hxn, upR_step hlt2 (by rw [lessI, if_pos (by omega)])]
           exact weakZ _)
        | (refine ⟨i + 1, by omega, by omega, ?_⟩
           rw [upR_same hlt2 (by rw [lessI, if_neg (by omega)])]
           exact weakZ _)

    · have ei : i = (nth s.net.trs t).post.length := by omega
      subst ei
      rw [upR_all]
      repeat' (first | refine goZ ?_ | ((first | refine R_cond rfl (fun hq => ?_) fun hq => ?_ | refine R_guardT rfl rfl rfl (fun hq => ?_) fun hq => ?_ | refine R_guardF rfl rfl rfl (fun hq => ?_) fun hq => ?_ | refine D_guardT rfl rfl rfl (fun hq => ?_) fun hq => ?_ | refine D_guardF rfl rfl rfl (fun hq => ?_) fun hq => ?_) <;> (try rw [hq]) <;> first | have hp := of_decide_eq_true hq | have hp := of_decide_eq_false hq | have hp := of_decide_eq_false (not_t hq) | have hp := of_decide_eq_true (not_f hq) | have hp := hq))
      all_goals first
        | (exfalso; omega)
        | exact ⟨2, by omega, by omega, by first | exact weakZ _ | exact weakZ []⟩

  · rw [if_pos (show 1 ≤ 2 by omega), if_pos (show 2 ≤ 2 by omega)]
    repeat' (first | refine goZ ?_ | ((first | refine R_cond rfl (fun hq => ?_) fun hq => ?_ | refine R_guardT rfl rfl rfl (fun hq => ?_) fun hq => ?_ | refine R_guardF rfl rfl rfl (fun hq => ?_) fun hq => ?_ | refine D_guardT rfl rfl rfl (fun hq => ?_) fun hq => ?_ | refine D_guardF rfl rfl rfl (fun hq => ?_) fun hq => ?_) <;> (try rw [hq]) <;> first | have hp := of_decide_eq_true hq | have hp := of_decide_eq_false hq | have hp := of_decide_eq_false (not_t hq) | have hp := of_decide_eq_true (not_f hq) | have hp := hq))
    all_goals first
      | (exfalso; omega)
      | skip
    refine ⟨t + 1, by omega, by omega, ?_⟩
    refine Weak.then (s2 := ⟨Try.f37.ntmps, [(1, .lit (.int .i64 p)), (4, .ptr 0 0), (8, .ptr 1 0), (56, .own 2), (57, .lit (.int .i64 s.net.trs.length)), (58, .lit (.int .i64 (t + 1 : Nat)))], [.cells 69 [.lit (.int .i64 0), .nil, .nil, .nil, .lit (.string ⟨#[]⟩)], .cells 69 [.lit (.int .i64 (s.net.places - 1)), .own 2, .own 3, .own 4, .lit (.string (s.start.extract 0 p.toNat ++ s.start.extract (p + 1).toNat s.start.size))], .arr 88 2 (ps.map dP) true, .arr 132 2 (s.signals.map dSig) true, .arr 105 2 (s.labels.map dLab) true, .cust (RowsT (ps.take t ++ ps.drop (t + 1)) ((s.net.trs.take t).map (lessT p) ++ s.net.trs.drop (t + 1)))] ++ [.cust (RowU (nth ps t).1 (lessT p (nth s.net.trs t)).pre), .cust (RowU (nth ps t).2 (lessT p (nth s.net.trs t)).post)]⟩) (by rw [hu1, hu2]; first | exact weakZ _ | exact weakZ []) (Weak.then (Weak_putT (hp := [.cells 69 [.lit (.int .i64 0), .nil, .nil, .nil, .lit (.string ⟨#[]⟩)], .cells 69 [.lit (.int .i64 (s.net.places - 1)), .own 2, .own 3, .own 4, .lit (.string (s.start.extract 0 p.toNat ++ s.start.extract (p + 1).toNat s.start.size))], .arr 88 2 (ps.map dP) true, .arr 132 2 (s.signals.map dSig) true, .arr 105 2 (s.labels.map dLab) true, .cust (RowsT (ps.take t ++ ps.drop (t + 1)) ((s.net.trs.take t).map (lessT p) ++ s.net.trs.drop (t + 1)))]) 5 (x := lessT p (nth s.net.trs t)) (q := nth ps t) rfl (by simp; omega) rfl rfl) ?_)
    have eR' : RowsT (ps.take t ++ nth ps t :: ps.drop (t + 1)) ((s.net.trs.take t).map (lessT p) ++ lessT p (nth s.net.trs t) :: s.net.trs.drop (t + 1)) = RowsT ps (upR (lessT p) s.net.trs (t + 1)) := by
      rw [← e1, upR, take_nth hlt, List.map_append, List.append_assoc]; rfl
    rw [← eR']
    exact fun ms a w h => ⟨ms, h⟩
end Go.Proofs.Ytcbfpeplcbgpjaa
