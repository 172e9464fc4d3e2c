/- The laws' helpers mark over structures. -/
import Derived.Test.YtcpjhpjlcgcigaaGreatDoorMarkF
set_option linter.unusedSimpArgs false
set_option linter.unusedVariables false
namespace Go.Proofs.YtcpjhpjlcgcigaaGreatDoor
open Go.ChangeShapes Go.WideShapes Go.ChangeAt Go.RowKit

def cntTrs (l : List Tr) : Nat := (l.map fun y => y.pre.length + y.post.length).sum

set_option maxHeartbeats 800000 in
theorem markTransitionS_w (w : World) (a : Option Addr) (c : Nat) (l : List Tr) (bs : List Nat) (k0 : Int) (h : (tSl tTr).rep w l bs [.slice a l.length c]) (hd : bs.Nodup) (hu : ∀ k ∈ bs, Un w k) (hk0 : 0 ≤ k0) (hk1 : k0 ≤ 100000000000) (hz : szTrs l ≤ 1048576) :
    Calls Tryz.prog 50 #[.slice a l.length c, .int .i64 k0] w fun e w' => e = .returned (.int .i64 (k0 + (cntTrs l : Nat))) ∧ Turn bs w w' := by
  have HS := Lib.hid (fun k => sum_take_map_le l (fun y => y.pre.length + y.post.length) k)
  have hcs : cntTrs l ≤ 1048576 := by
    unfold szTrs at hz
    have e : (l.map fun x => szTr x).sum = cntTrs l := rfl
    first | omega | (rw [e] at hz; omega)
  have HC : Hid (cntTrs l = (l.map fun y => y.pre.length + y.post.length).sum) := Lib.hid rfl
  obtain ⟨a', c', h1, _, _, _, hs⟩ := h
  simp only [List.cons.injEq, Value.slice.injEq, and_true] at h1
  obtain ⟨rfl, _, rfl⟩ := h1
  have hl : l.length ≤ 1048576 := by unfold szTrs at hz; omega
  rcases hs with ⟨rfl, rfl⟩ | ⟨b, o, bss, rfl, hbw, rfl, hlen, he⟩
  · have hn1 : ([] : List Tr).length < 1 := by decide
    go_enter Tryz.func50, Tryz.ntmps50
    go_wp2
    go_loopw [1, 5] (fun v i wr => v = .int .i64 k0 ∧ i = .int .i64 0 ∧ w = wr) (fun _ _ _ => 0)
    case atStart => exact ⟨rfl, rfl, rfl⟩
    case round =>
      obtain ⟨rfl, rfl, rfl⟩ := hrel
      go_wp2
      go_ret
      exact ⟨ret_int (by simp [cntTrs]), Turn.refl _ _⟩
  · rw [List.nodup_cons] at hd
    obtain ⟨hb, hd⟩ := hd
    have HD := Lib.hid hd
    have HU := Lib.hid hu
    have HEl := Lib.hid he
    have HLen := Lib.hid hlen
    clear he hu hlen hd
    go_enter Tryz.func50, Tryz.ntmps50
    go_wp2
    go_loopw [1, 5] (fun v i wr => ∃ j n : Nat, j ≤ l.length ∧ i = .int .i64 j ∧ v = .int .i64 (k0 + (n : Int)) ∧ n = ((l.take j).map fun y => y.pre.length + y.post.length).sum ∧ n ≤ 1048576 ∧ Turn ((bss.take j).flatten) w wr) (fun _ i _ => l.length - (intOf i).toNat)
    case atStart => exact ⟨0, 0, Nat.zero_le _, rfl, by simp, by simp, by omega, Turn.refl _ _⟩
    case round =>
      obtain ⟨j, n, hj, rfl, rfl, hn, hnb, ht⟩ := hrel
      have HN := Lib.hid hn
      clear hn
      by_cases hlt : j < l.length
      · obtain ⟨cs, ⟨b1, b2, d1, d2, hbs, hcs, ⟨p1, q1, rfl, u1, u2, u3, u4⟩, ⟨p2, q2, rfl, v1, v2, v3, v4⟩⟩, hcell⟩ := HEl.out j hlt
        subst hcs
        have hjb : j < bss.length := by rw [HLen.out]; exact hlt
        have htk : (bss.take (j + 1)).flatten = (bss.take j).flatten ++ (b1 ++ b2) := by rw [take_nth hjb, hbs]; simp
        have hfl : bss.flatten = (bss.take j).flatten ++ ((b1 ++ b2) ++ (bss.drop (j + 1)).flatten) := by
          rw [← hbs, ← List.flatten_cons, ← drop_nth hjb, ← List.flatten_append, List.take_append_drop]
        have hnd := HD.out
        rw [hfl, List.nodup_append] at hnd
        obtain ⟨_, hnd2, hdis⟩ := hnd
        rw [List.nodup_append] at hnd2
        obtain ⟨hnd3, _, _⟩ := hnd2
        rw [List.nodup_append] at hnd3
        obtain ⟨_, _, hdis12⟩ := hnd3
        have hbn : b ∉ (bss.take j).flatten := fun hm => hb (by rw [hfl]; exact List.mem_append_left _ hm)
        have hb1n : b ∉ b1 := fun hm => hb (by rw [hfl]; simp [hm])
        have hc0 := hcell 0 (by decide)
        have hc1 := hcell 1 (by decide)
        simp only [show tTr.n = 2 from rfl, Nat.add_zero] at hc0 hc1
        have hd0 : wr.cell? ⟨b, o + j * 2, none⟩ = some (.slice p1 (nth l j).pre.length q1) := by rw [cell_of_heap (ht.block b hbw hbn)]; exact hc0
        have hr1 : (tSl tInt).rep wr (nth l j).pre b1 [.slice p1 (nth l j).pre.length q1] := Ty.keep_turn (T := tSl tInt) ⟨p1, q1, rfl, u1, u2, u3, u4⟩ ht (fun i hi hm => hdis i hm i (by simp [hi]) rfl)
        have hr2 : (tSl tInt).rep wr (nth l j).post b2 [.slice p2 (nth l j).post.length q2] := Ty.keep_turn (T := tSl tInt) ⟨p2, q2, rfl, v1, v2, v3, v4⟩ ht (fun i hi hm => hdis i hm i (by simp [hi]) rfl)
        have hun1 : ∀ k ∈ b1, Un wr k := fun k hk => ht.un_all (HU.out k (by rw [hfl]; simp [hk]))
        have hun2 : ∀ k ∈ b2, Un wr k := fun k hk => ht.un_all (HU.out k (by rw [hfl]; simp [hk]))
        have HSt := Lib.hid (sum_take_succ l (fun y => y.pre.length + y.post.length) hlt)
        have hS2 := HS.out (j + 1)
        have hle : n + ((nth l j).pre.length + (nth l j).post.length) ≤ 1048576 := by
          have h1 := HSt.out; have h2 := HC.out; have h3 := HN.out
          simp only [List.map_take] at hS2 h1 h3
          omega
        have HR1 := Lib.hid hr1
        have HR2 := Lib.hid hr2
        have HU1 := Lib.hid hun1
        have HU2 := Lib.hid hun2
        have HT := Lib.hid ht
        have HTK := Lib.hid htk
        have HP := Lib.hid hdis12
        clear hr1 hr2 hun1 hun2 ht htk hfl hdis hdis12 hcell hbs u1 u2 u3 u4 v1 v2 v3 v4 hS2 hc0
        go_wp2_with fail
        refine (markIntS_c _ _ _ _ b1 _ HR1.out HU1.out (by omega) (by omega) (by omega)).mono ?_
        rintro e w2 ⟨rfl, _, ht2⟩
        have hws : b < wr.heap.size := lt_of_cell hd0
        have hd1 : w2.cell? ⟨b, o + j * 2 + 1, none⟩ = some (.slice p2 (nth l j).post.length q2) := by
          rw [cell_of_heap (ht2.block b hws hb1n), cell_of_heap (HT.out.block b hbw hbn)]; exact hc1
        have HR3 := Lib.hid (Ty.keep_turn HR2.out ht2 (fun i hi hm => HP.out i hm i hi rfl))
        have HU3 := Lib.hid (fun k hk => ht2.un_all (HU2.out k hk))
        have HT2 := Lib.hid ht2
        clear ht2 hc1
        go_wp2_with fail
        refine (markIntS_c _ _ _ _ b2 _ HR3.out HU3.out (by omega) (by omega) (by omega)).mono ?_
        rintro e w3 ⟨rfl, _, ht3⟩
        have HT3 := Lib.hid ht3
        clear ht3
        go_wp2
        go_roundw
        case rel =>
          refine ⟨j + 1, n + ((nth l j).pre.length + (nth l j).post.length), by omega, by go_num, ?_, by rw [HSt.out, HN.out], hle, ?_⟩
          · congr 1; omega
          · rw [HTK.out]
            exact (HT.out.mono (fun k hk => by simp [hk])).trans ((HT2.out.mono (fun k hk => by simp [hk])).trans (HT3.out.mono (fun k hk => by simp [hk])))
        case measure => simp [intOf]; omega
      · obtain rfl : j = l.length := by omega
        go_wp2
        go_ret
        refine ⟨ret_int ?_, ht.mono (fun k hk => List.mem_cons_of_mem _ ?_)⟩
        · rw [HC.out, HN.out, List.take_length]
        · rw [List.take_of_length_le (by rw [HLen.out]; exact Nat.le_refl _)] at hk; exact hk
end Go.Proofs.YtcpjhpjlcgcigaaGreatDoor
