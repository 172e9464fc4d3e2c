/- Reading lines: the program's reading of a text. No condition. -/
import Derived.Test.YtcpjhpjlcgcigaaGreatDoorPrB
import Derived.Test.YtcpjhpjlcgcigaaGreatDoorPrD
set_option linter.unusedSimpArgs false
set_option linter.unusedVariables false
set_option maxHeartbeats 2000000
namespace Go.Proofs.YtcpjhpjlcgcigaaGreatDoor
open Go.ChangeShapes Go.WideShapes Go.ChangeAt Go.RowKit

set_option maxHeartbeats 4000000 in
theorem Parse_g (t : ByteArray) (ht : t.size ≤ 1048576) (r : PR) (hr : resS t = r) : FnG XW Tryz.prog 5 [.lit (.string t)] (dPR r) (bPR r) := by
  have hS := Split_g (t.extract 0 ((t.size : Int) - 1).toNat) 10 (b := 10) rfl (by rw [ByteArray.size_extract]; omega)
  rw [show splitS (t.extract 0 ((t.size : Int) - 1).toNat) 10 = linesOf t from rfl] at hS
  by_cases ha : askedP t = true
  · obtain ⟨a1, a2, a3⟩ := asked_yes ha
    have HA := Lib.hid ha
    clear ha
    have hne : ¬ t = ⟨#[]⟩ := by intro h; rw [h] at a1; simp [ByteArray.size] at a1
    have hp1 := lines_pos t
    have hp2 := lines_len a2
    have hp3 : ∀ x ∈ linesOf t, x.size ≤ 4000 := fun x hx => lines_size a2 hx
    obtain ⟨ls, hls⟩ : ∃ ls, ls = linesOf t := ⟨_, rfl⟩
    rw [← hls] at hS hp1 hp2 hp3
    have HL := Lib.hid hls
    clear hls
    have hz := len_strs ls
    have hR := readSignals_f ls hp3 hp2
    have hok := rsN_ok ls 3 (Nat.le_refl _)
    have hB := linesS_b hp3 _ _ hok.le hok.lines
    have hle := hok.le
    have HOK := Lib.hid hok
    have HB := Lib.hid hB
    clear hok hB
    have hst := fun (h : (rsN ls 3).c < ls.length) => rsN_start h
    obtain ⟨c, hc⟩ : ∃ c, c = (rsN ls 3).c := ⟨_, rfl⟩
    obtain ⟨p, hp⟩ : ∃ p, p = (rsN ls 3).p := ⟨_, rfl⟩
    rw [← hc, ← hp] at hR
    rw [← hc] at hle
    have HST : Hid (c < ls.length → lineS p (splitS (nth ls c) 32) = if hasW (nth ls c) startW = true ∧ hasB (offW (nth ls c) startW) = false then some { p with places := (offW (nth ls c) startW).size, start := offW (nth ls c) startW, kind := 4 } else none) := Lib.hid (by rw [hc, hp]; exact hst)
    have HC := Lib.hid hc
    have HP := Lib.hid hp
    clear hc hp hst
    have hzd : (strs (ls.drop c)).length = ls.length - c := by rw [len_strs, List.length_drop]
    rcases Nat.lt_or_ge c ls.length with hlt | hge
    · have hn0 : nth (ls.drop c) 0 = nth ls c := by
        rw [nth_get (by rw [List.length_drop]; omega), nth_get hlt, List.getElem_drop]; rfl
      have hx := hp3 _ (nth_mem hlt)
      have hC := CutStart_f (nth (ls.drop c) 0) (by rw [hn0]; omega)
      have hN := Contains_f (offW (nth (ls.drop c) 0) startW)
      have hzc : (ls.drop c).length = ls.length - c := List.length_drop
      have hosz := offW_size (nth (ls.drop c) 0) startW
      rw [hn0] at hosz
      have hst := HST.out hlt
      rw [← hn0] at hst
      have HCP : Hid (linesS ls c = some p) := Lib.hid (by rw [HC.out, HP.out]; exact HOK.out.lines)
      have fail : lineS p (splitS (nth (ls.drop c) 0) 32) = none → r = ⟨p0, 2, (c : Int) + 1, false⟩ := fun h => by
        rw [← hr]
        exact resS_fail HA.out (k := c) (p := p) (by rw [← HL.out]; exact hlt) (by rw [← HL.out]; exact HCP.out) (by rw [← HL.out, ← hn0]; exact h)
      cases hw : hasW (nth (ls.drop c) 0) startW
      · have HE := Lib.hid (fail (by rw [hst, hw]; simp))
        rw [hw] at hC
        clear fail hst hw
        refine FnG_ofE tabOk Tryz.func5 rfl (by kernel_rfl) rfl rfl ?_
        intro w0 A hX hin
        repeat' (first | refine goZ ?_ | refine R_callZ rfl (hC) rfl rfl rfl ?_ | refine R_callZ rfl (hN) rfl rfl rfl ?_ | refine R_callvZ rfl (hC) rfl rfl rfl rfl ?_ | refine R_callvZ rfl (hN) rfl rfl rfl rfl ?_ | refine R_callG (fun _ h => hX.ext h) rfl hS rfl rfl rfl ?_ | refine R_callG (fun _ h => hX.ext h) rfl hR rfl rfl rfl ?_ | refine D_callZ rfl (hC) rfl rfl rfl ?_ | refine D_callZ rfl (hN) rfl rfl rfl ?_ | ((first | refine R_cond rfl (fun hq => ?_) fun hq => ?_ | refine R_guardT rfl rfl rfl (fun hq => ?_) fun hq => ?_ | refine R_guardF rfl rfl rfl (fun hq => ?_) fun hq => ?_ | refine D_guardT rfl rfl rfl (fun hq => ?_) fun hq => ?_ | refine D_guardF rfl rfl rfl (fun hq => ?_) fun hq => ?_) <;> (try rw [hq]) <;> first | have hp := of_decide_eq_true hq | have hp := of_decide_eq_false hq | have hp := of_decide_eq_false (not_t hq) | have hp := of_decide_eq_true (not_f hq) | have hp := hq))
        all_goals first
          | exact .r (retE_none rfl HE.out rfl (congrArg (Value.int .i64) (by omega)) rfl)
          | contradiction
          | (exfalso; omega)
      · rw [hw] at hC hst
        cases hb : hasB (offW (nth (ls.drop c) 0) startW)
        · rw [hb] at hN hst
          simp only [and_self, if_true] at hst
          have htr : p.trs = [] := by rw [HP.out]; exact HOK.out.tr
          have hlb : p.labs = [] := by rw [HP.out]; exact HOK.out.lb
          rw [htr, hlb] at hst
          have hG : linesS ls (c + 1) = some ⟨((offW (nth (ls.drop c) 0) startW).size : Int), [], p.sigs, [], offW (nth (ls.drop c) 0) startW, 4⟩ := by
            rw [linesS_some HCP.out, ← hn0]; exact hst
          exact Parse_good t ht r ls c p.sigs _ hne a1 a2 a3 hp2 hp3 hlt (by rw [hn0]; omega) hS hR hC hN (Lib.hid hG)
            (Lib.hid fun k q hk hq h => by rw [← hr]; exact resS_fail HA.out (k := k) (p := q) (by rw [← HL.out]; exact hk) (by rw [← HL.out]; exact hq) (by rw [← HL.out]; exact h))
            (Lib.hid fun q hq hg hf => by rw [← hr]; exact resS_yes HA.out (by rw [← HL.out]; exact hq) hg hf)
            (Lib.hid fun q hq h => by rw [← hr]; exact resS_bad HA.out (by rw [← HL.out]; exact hq) h)
        · have HE := Lib.hid (fail (by rw [hst, hb]; simp))
          rw [hb] at hN
          clear fail hst hw hb
          refine FnG_ofE tabOk Tryz.func5 rfl (by kernel_rfl) rfl rfl ?_
          intro w0 A hX hin
          repeat' (first | refine goZ ?_ | refine R_callZ rfl (hC) rfl rfl rfl ?_ | refine R_callZ rfl (hN) rfl rfl rfl ?_ | refine R_callvZ rfl (hC) rfl rfl rfl rfl ?_ | refine R_callvZ rfl (hN) rfl rfl rfl rfl ?_ | refine R_callG (fun _ h => hX.ext h) rfl hS rfl rfl rfl ?_ | refine R_callG (fun _ h => hX.ext h) rfl hR rfl rfl rfl ?_ | refine D_callZ rfl (hC) rfl rfl rfl ?_ | refine D_callZ rfl (hN) rfl rfl rfl ?_ | ((first | refine R_cond rfl (fun hq => ?_) fun hq => ?_ | refine R_guardT rfl rfl rfl (fun hq => ?_) fun hq => ?_ | refine R_guardF rfl rfl rfl (fun hq => ?_) fun hq => ?_ | refine D_guardT rfl rfl rfl (fun hq => ?_) fun hq => ?_ | refine D_guardF rfl rfl rfl (fun hq => ?_) fun hq => ?_) <;> (try rw [hq]) <;> first | have hp := of_decide_eq_true hq | have hp := of_decide_eq_false hq | have hp := of_decide_eq_false (not_t hq) | have hp := of_decide_eq_true (not_f hq) | have hp := hq))
          all_goals first
            | exact .r (retE_none rfl HE.out rfl (congrArg (Value.int .i64) (by omega)) rfl)
            | contradiction
            | (exfalso; omega)
    · have hE : r = ⟨p0, 3, 0, false⟩ := by
        have e : c = ls.length := by omega
        have h1 : linesS ls ls.length = some p := by rw [← e, HC.out, HP.out]; exact HOK.out.lines
        have h2 : goodStg (stgP p) = false := good_pl (by rw [HP.out]; exact HOK.out.pl)
        rw [← hr]
        exact resS_bad HA.out (p := p) (by rw [← HL.out]; exact h1) (by rw [h2]; simp)
      have HE := Lib.hid hE
      clear hE
      refine FnG_ofE tabOk Tryz.func5 rfl (by kernel_rfl) rfl rfl ?_
      intro w0 A hX hin
      repeat' (first | refine goZ ?_ | refine R_callG (fun _ h => hX.ext h) rfl hS rfl rfl rfl ?_ | refine R_callG (fun _ h => hX.ext h) rfl hR rfl rfl rfl ?_ | ((first | refine R_cond rfl (fun hq => ?_) fun hq => ?_ | refine R_guardT rfl rfl rfl (fun hq => ?_) fun hq => ?_ | refine R_guardF rfl rfl rfl (fun hq => ?_) fun hq => ?_ | refine D_guardT rfl rfl rfl (fun hq => ?_) fun hq => ?_ | refine D_guardF rfl rfl rfl (fun hq => ?_) fun hq => ?_) <;> (try rw [hq]) <;> first | have hp := of_decide_eq_true hq | have hp := of_decide_eq_false hq | have hp := of_decide_eq_false (not_t hq) | have hp := of_decide_eq_true (not_f hq) | have hp := hq))
      all_goals first
        | exact .r (retE_none rfl HE.out rfl rfl rfl)
        | contradiction
        | (exfalso; omega)
  · have h3 : askedP t = false := by simpa using ha
    have h4 := resS_not h3
    rw [hr] at h4
    have HA := Lib.hid ha
    clear ha h3
    refine FnG_ofE tabOk Tryz.func5 rfl (by kernel_rfl) rfl rfl ?_
    intro w0 A hX hin
    by_cases h0 : t = ⟨#[]⟩
    · repeat' (first | refine goZ ?_ | refine R_callG (fun _ h => hX.ext h) rfl hS rfl rfl rfl ?_ | ((first | refine R_cond rfl (fun hq => ?_) fun hq => ?_ | refine R_guardT rfl rfl rfl (fun hq => ?_) fun hq => ?_ | refine R_guardF rfl rfl rfl (fun hq => ?_) fun hq => ?_ | refine D_guardT rfl rfl rfl (fun hq => ?_) fun hq => ?_ | refine D_guardF rfl rfl rfl (fun hq => ?_) fun hq => ?_) <;> (try rw [hq]) <;> first | have hp := of_decide_eq_true hq | have hp := of_decide_eq_false hq | have hp := of_decide_eq_false (not_t hq) | have hp := of_decide_eq_true (not_f hq) | have hp := hq))
      all_goals first
        | exact .r (retE_none rfl h4 rfl rfl rfl)
        | contradiction
    · have hsz := empty_size h0
      repeat' (first | refine goZ ?_ | refine R_callG (fun _ h => hX.ext h) rfl hS rfl rfl rfl ?_ | ((first | refine R_cond rfl (fun hq => ?_) fun hq => ?_ | refine R_guardT rfl rfl rfl (fun hq => ?_) fun hq => ?_ | refine R_guardF rfl rfl rfl (fun hq => ?_) fun hq => ?_ | refine D_guardT rfl rfl rfl (fun hq => ?_) fun hq => ?_ | refine D_guardF rfl rfl rfl (fun hq => ?_) fun hq => ?_) <;> (try rw [hq]) <;> first | have hp := of_decide_eq_true hq | have hp := of_decide_eq_false hq | have hp := of_decide_eq_false (not_t hq) | have hp := of_decide_eq_true (not_f hq) | have hp := hq))
      all_goals first
        | exact .r (retE_none rfl h4 rfl rfl rfl)
        | contradiction
        | (exfalso; exact HA.out (by rw [askedP, decide_eq_true_eq]; exact ⟨hsz, by omega, by assumption⟩))
theorem Parse_f (t : ByteArray) (ht : t.size ≤ 1048576) : FnG XW Tryz.prog 5 [.lit (.string t)] (dPR (resS t)) (bPR (resS t)) := Parse_g t ht _ rfl
end Go.Proofs.YtcpjhpjlcgcigaaGreatDoor
