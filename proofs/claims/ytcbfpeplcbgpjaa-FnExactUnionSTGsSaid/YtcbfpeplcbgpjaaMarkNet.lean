/- The laws' helpers mark and held over nets: what lies there then. No condition. -/
import Derived.Test.YtcbfpeplcbgpjaaMarkN
set_option linter.unusedSimpArgs false
set_option linter.unusedVariables false
set_option maxHeartbeats 2000000
namespace Go.Proofs.Ytcbfpeplcbgpjaa
open Go.ChangeShapes Go.WideShapes Go.ChangeAt Go.RowKit

def trL : List Tr → List (List Int)
  | [] => []
  | t :: l => t.pre :: t.post :: trL l
theorem trL_len : ∀ l : List Tr, (trL l).length = 2 * l.length
  | [] => rfl
  | _ :: l => by simp only [trL, List.length_cons, trL_len l]; omega
theorem trL_pre : ∀ {l : List Tr} {j : Nat}, j < l.length → nth (trL l) (2 * j) = (nth l j).pre
  | [], _, h => by simp at h
  | t :: l, 0, _ => by rw [nth_cons_zero]; exact nth_cons_zero ..
  | t :: l, j + 1, h => by rw [show 2 * (j + 1) = 2 * j + 1 + 1 by omega, trL, nth_cons_succ, nth_cons_succ, nth_cons_succ, trL_pre (by simpa using h)]
theorem trL_post : ∀ {l : List Tr} {j : Nat}, j < l.length → nth (trL l) (2 * j + 1) = (nth l j).post
  | [], _, h => by simp at h
  | t :: l, 0, _ => by rw [nth_cons_zero, trL, nth_cons_succ, nth_cons_zero]
  | t :: l, j + 1, h => by rw [show 2 * (j + 1) + 1 = 2 * j + 1 + 1 + 1 by omega, trL, nth_cons_succ, nth_cons_succ, nth_cons_succ, trL_post (by simpa using h)]
theorem flat_dTr : ∀ l : List Tr, (l.map dTr).flatten = (trL l).map shI
  | [] => rfl
  | t :: l => by rw [List.map_cons, List.flatten_cons, flat_dTr l]; rfl
theorem trL_cnt : ∀ l : List Tr, cntII (trL l) = cntTrs l
  | [] => rfl
  | t :: l => by
    have := trL_cnt l
    simp only [cntII, cntTrs, trL, List.map_cons, List.sum_cons] at this ⊢; omega
theorem trL_mem {l : List Tr} {r : List Int} (h : r ∈ trL l) : ∃ t ∈ l, r = t.pre ∨ r = t.post := by
  induction l with
  | nil => simp [trL] at h
  | cons t l ih =>
    simp only [trL, List.mem_cons] at h
    rcases h with rfl | rfl | h
    · exact ⟨t, by simp, Or.inl rfl⟩
    · exact ⟨t, by simp, Or.inr rfl⟩
    · obtain ⟨s, h1, h2⟩ := ih h; exact ⟨s, by simp [h1], h2⟩
theorem two2_flat : ∀ (n : Nat) (l : List D), l.length = 2 * n → (two2 l).flatten = l ∧ (two2 l).length = n ∧ ∀ r ∈ two2 l, r.length = 2
  | 0, l, h => by
    obtain rfl : l = [] := List.length_eq_zero_iff.1 (by omega)
    simp [two2]
  | n + 1, [], h => by simp at h
  | n + 1, [_], h => by simp at h; omega
  | n + 1, a :: b :: l, h => by
    obtain ⟨h1, h2, h3⟩ := two2_flat n l (by simp at h; omega)
    refine ⟨by simp [two2, h1], by simp [two2, h2], fun r hr => ?_⟩
    simp only [two2, List.mem_cons] at hr
    rcases hr with rfl | hr
    · rfl
    · exact h3 r hr
theorem le_cnt {l : List Tr} {t : Tr} (h : t ∈ l) : t.pre.length ≤ cntTrs l ∧ t.post.length ≤ cntTrs l := by
  induction l with
  | nil => cases h
  | cons a l ih =>
    simp only [cntTrs, List.map_cons, List.sum_cons] at ih ⊢
    rcases List.mem_cons.1 h with rfl | h
    · omega
    · have := ih h; omega

set_option maxRecDepth 20000 in
set_option maxHeartbeats 1600000 in
theorem markTransitionS_n (l : List Tr) (k0 : Int) (h0 : 0 ≤ k0) (h1 : k0 ≤ 100000000000) (hl : l.length ≤ 1000000) (hz : cntTrs l ≤ 1048576) : MFn Try.prog 78 false [.sh 2 (l.map dTr)] k0 (k0 + ((cntTrs l : Nat) : Int)) (some [.sh 2 (two2 (nmk (lensII (trL l)) k0))]) := by
  refine ⟨plain_of Try.func78 (by kernel_rfl) (by kernel_rfl), litOk_i64.2 (by omega), fun w us bs hv hnd hun => ?_⟩
  obtain ⟨u, rfl, hu⟩ := vrs_one hv
  clear hv
  generalize hxs : l.map dTr = xs at hu
  have hxl : xs.length = l.length := by rw [← hxs]; simp
  have hr : ∀ t ∈ l, t.pre.length ≤ 1048576 ∧ t.post.length ≤ 1048576 := fun t ht => by have := le_cnt ht; omega
  cases hu with
  | shnil q1 q2 =>
    obtain rfl : l = [] := List.length_eq_zero_iff.1 (by rw [← hxl]; rfl)
    rename_i a cap
    show Calls Try.prog 78 #[.slice a 0 cap, .int .i64 k0] w _
    clear hnd hun hr
    have hn1 : ([] : List Tr).length < 1 := by decide
    go_enter Try.func78, Try.ntmps78
    go_wp2
    go_loopw [1, 5] (fun v i wr => v = .int .i64 k0 ∧ i = .int .i64 0 ∧ w = wr) (fun _ _ _ => 0)
    case atStart => exact ⟨rfl, rfl, rfl⟩
    case round =>
      obtain ⟨rfl, rfl, rfl⟩ := hrel
      go_wp2
      go_ret
      refine ⟨ret_int (by simp [cntTrs]), Turn.refl _ _, fun l hl => ?_⟩
      cases hl
      have : VRs w [.sh 2 []] [.slice a 0 cap] [] := by simpa using VRs.cons (VR.shnil (n := 2) q1 q2) .nil
      simpa [lensII, nmk, two2, trL] using this
  | sh q1 q2 q3 q4 q5 q6 =>
    rename_i b o cap us bs
    rw [List.nodup_cons] at hnd
    obtain ⟨hb, hnd⟩ := hnd
    have htl := trL_len l
    have hfx : xs.flatten = markX (trL l) k0 0 := by rw [← hxs, flat_dTr]; simp [markX, lensII, nmk]
    have hul : us.length = 2 * l.length := by rw [q5.len, hfx, markX]; simp [lensII, nmk, htl]
    have HX0 : Hid (VRs w (markX (trL l) k0 0) us bs) := Lib.hid (by rw [← hfx]; exact q5)
    have HND := Lib.hid hnd
    have HUN := Lib.hid hun
    have HB := Lib.hid hb
    have HC := Lib.hid q6
    have HR := Lib.hid hr
    have HTC := Lib.hid (trL_cnt l)
    rw [hxl] at q2 ⊢
    clear q1 q5 q6 hnd hun hb hr hxs hfx
    show Calls Try.prog 78 #[.slice (some ⟨b, o, none⟩) l.length cap, .int .i64 k0] w _
    go_enter Try.func78, Try.ntmps78
    go_wp2
    go_loopw [1, 5] (fun v i wr => ∃ j n : Nat, j ≤ l.length ∧ i = .int .i64 j ∧ v = .int .i64 (k0 + (n : Int)) ∧ n = cntII ((trL l).take (2 * j)) ∧ Hid (VRs wr (markX (trL l) k0 (2 * j)) us bs) ∧ Hid (Turn bs w wr)) (fun _ i _ => l.length - (intOf i).toNat)
    case atStart => exact ⟨0, 0, Nat.zero_le _, rfl, by simp, by simp [cntII], HX0, Lib.hid (Turn.refl _ _)⟩
    case round =>
      obtain ⟨j, n, hj, rfl, rfl, hn, HX, HT⟩ := hrel
      have hn1 := cntII_le (trL l) (2 * j)
      have htc := HTC.out
      have hnb : n ≤ cntTrs l := by omega
      have HN := Lib.hid hn
      clear hn
      by_cases hlt : j < l.length
      · have ha : 2 * j < (trL l).length := by omega
        have hb2 : 2 * j + 1 < (trL l).length := by omega
        have hcn := cntII_next ha
        have hcn2 := cntII_next hb2
        have hc2 := cntII_le (trL l) (2 * j + 1)
        have hc3 := cntII_le (trL l) (2 * j + 1 + 1)
        have hrl := HR.out _ (nth_mem hlt)
        rw [trL_pre hlt] at hcn
        rw [trL_post hlt] at hcn2
        have hnn : n + (nth l j).pre.length ≤ 1048576 := by have := HN.out; omega
        have hx := HX.out
        rw [markX_at ha, trL_pre hlt] at hx
        obtain ⟨u, hu1, ⟨bd, hbd⟩, hcall⟩ := (markIntS_m (nth l j).pre (k0 + (n : Int)) (by omega) (by omega) hrl.1).at_ hx HND.out (fun k hk => HT.out.un_all (HUN.out k (by simp [hk])))
        obtain ⟨pa, pc, rfl⟩ := hbd.slice
        rw [len_ints] at hu1 hcall
        have hu2 : us[2 * j]? = some (.slice pa (nth l j).pre.length pc) := by
          rw [← hu1, nmk_len]; simp [lensII, Nat.min_eq_left (Nat.le_of_lt ha)]
        have hd0 : wr.cell? ⟨b, o + j * 2, none⟩ = some (.slice pa (nth l j).pre.length pc) := by
          rw [cell_of_heap (HT.out.block b q4 HB.out), Nat.mul_comm j 2, HC.out (2 * j) (by omega)]; exact hu2
        have HCALL := Lib.hid hcall
        have HA := Lib.hid ha
        have HB2 := Lib.hid hb2
        have HCN := Lib.hid hcn
        have HCN2 := Lib.hid hcn2
        clear hcall hx hbd hu1 hu2 hn1 hc2 hc3 hcn hcn2 ha hb2 htc
        go_wp2_with fail
        refine HCALL.out.mono ?_
        rintro e w2 ⟨rfl, ht2, hv2⟩
        have hv3 : VRs w2 (markX (trL l) k0 (2 * j + 1)) us bs := by rw [markX_next HA.out, trL_pre hlt, ← HN.out]; exact hv2
        rw [markX_at HB2.out, trL_post hlt] at hv3
        obtain ⟨u, hu1, ⟨bd, hbd⟩, hcall⟩ := (markIntS_m (nth l j).post (k0 + (n : Int) + ((nth l j).pre.length : Int)) (by omega) (by omega) hrl.2).at_ hv3 HND.out (fun k hk => (HT.out.trans ht2).un_all (HUN.out k (by simp [hk])))
        obtain ⟨pa2, pc2, rfl⟩ := hbd.slice
        rw [len_ints] at hu1 hcall
        have hu2 : us[2 * j + 1]? = some (.slice pa2 (nth l j).post.length pc2) := by
          rw [← hu1, nmk_len]; simp [lensII, Nat.min_eq_left (Nat.le_of_lt HB2.out)]
        have hd1 : w2.cell? ⟨b, o + j * 2 + 1, none⟩ = some (.slice pa2 (nth l j).post.length pc2) := by
          rw [cell_of_heap ((HT.out.trans ht2).block b q4 HB.out), Nat.mul_comm j 2, Nat.add_assoc, HC.out (2 * j + 1) (by omega)]; exact hu2
        have HCALL2 := Lib.hid hcall
        have HT2 := Lib.hid (HT.out.trans ht2)
        clear hv2 hv3 ht2 hcall hbd hu1 hu2
        go_wp2_with fail
        refine HCALL2.out.mono ?_
        rintro e w3 ⟨rfl, ht3, hv3⟩
        have HX3 : Hid (VRs w3 (markX (trL l) k0 (2 * (j + 1))) us bs) := Lib.hid (by
          rw [show 2 * (j + 1) = 2 * j + 1 + 1 by omega, markX_next HB2.out, trL_post hlt, HCN.out, ← HN.out, show k0 + ((n + (nth l j).pre.length : Nat) : Int) = k0 + (n : Int) + ((nth l j).pre.length : Int) by omega]
          exact hv3)
        have HT3 := Lib.hid (HT2.out.trans ht3)
        clear hv3 ht3
        go_wp2
        go_roundw
        case rel => exact ⟨j + 1, n + (nth l j).pre.length + (nth l j).post.length, by omega, by go_num, by congr 1; omega, by rw [show 2 * (j + 1) = 2 * j + 1 + 1 by omega, HCN2.out, HCN.out, ← HN.out], HX3, HT3⟩
        case measure => simp [intOf]; omega
      · obtain rfl : j = l.length := by omega
        go_wp2
        go_ret
        refine ⟨ret_int (by rw [HN.out, ← htl, List.take_length, htc]), HT.out.mono fun k hk => List.mem_cons_of_mem _ hk, fun l2 hl2 => ?_⟩
        cases hl2
        have hx := HX.out
        rw [← htl, markX_end] at hx
        obtain ⟨f1, f2, f3⟩ := two2_flat l.length (nmk (lensII (trL l)) k0) (by rw [nmk_len]; simp [lensII, htl])
        have : VR wr (.sh 2 (two2 (nmk (lensII (trL l)) k0))) (.slice (some ⟨b, o, none⟩) (two2 (nmk (lensII (trL l)) k0)).length cap) (b :: bs) := by
          refine .sh f3 (by rw [f2]; exact q2) q3 ?_ (by rw [f1]; exact hx) fun j hj => ?_
          · exact (Array.getElem?_eq_some_iff.1 ((HT.out.block b q4 HB.out).trans (Array.getElem?_eq_getElem q4))).1
          · rw [cell_of_heap (HT.out.block b q4 HB.out)]; exact HC.out j hj
        rw [f2] at this
        simpa using VRs.cons this .nil

theorem two2_row : ∀ {L : List D} {m j : Nat} {a b : D}, L.length = 2 * m → L[2 * j]? = some a → L[2 * j + 1]? = some b → (two2 L)[j]? = some [a, b]
  | [], _, _, _, _, _, h, _ => by simp at h
  | [_], m, _, _, _, h0, _, _ => by simp at h0; omega
  | a :: b :: L, _, 0, _, _, _, h, h' => by simp at h h'; simp [two2, h, h']
  | a :: b :: L, m, j + 1, x, y, h0, h, h' => by
    rw [show 2 * (j + 1) = 2 * j + 1 + 1 by omega] at h
    rw [show 2 * (j + 1) + 1 = 2 * j + 1 + 1 + 1 by omega] at h'
    simp only [List.getElem?_cons_succ] at h h'
    simp only [two2, List.getElem?_cons_succ]
    exact two2_row (m := m - 1) (by simp at h0; omega) h h'

theorem heldTransitionS_f (ns : List Nat) (m : Nat) (hm : ns.length = 2 * m) (k0 : Int) (h0 : 0 ≤ k0) (h1 : k0 + ((ns.sum : Nat) : Int) ≤ 1000000000000) (hr : ∀ n ∈ ns, n ≤ 1048576) (hl : ns.length ≤ 100000000) : Fn Try.prog 160 [.sh 2 (two2 (nmk ns k0)), .lit (.int .i64 k0)] (.lit (.int .i64 (k0 + ((ns.sum : Nat) : Int)))) [] := by
  refine Fn_of Try.func160 rfl (by kernel_rfl) rfl rfl ?_
  intro w0 A hin
  have hz : (two2 (nmk ns k0)).length = m := (two2_flat m _ (by rw [nmk_len]; exact hm)).2.1
  repeat' (first | refine goZ ?_ | ((first | refine R_cond rfl (fun hq => ?_) fun hq => ?_ | refine R_guardT rfl rfl rfl (fun hq => ?_) fun hq => ?_ | refine R_guardF rfl rfl rfl (fun hq => ?_) fun hq => ?_ | refine D_guardT rfl rfl rfl (fun hq => ?_) fun hq => ?_ | refine D_guardF rfl rfl rfl (fun hq => ?_) fun hq => ?_) <;> (try rw [hq]) <;> first | have hp := of_decide_eq_true hq | have hp := of_decide_eq_false hq | have hp := of_decide_eq_false (not_t hq) | have hp := of_decide_eq_true (not_f hq) | have hp := hq))
  refine W_loop (fun j : Nat => ⟨_, [(0, .sh 2 (two2 (nmk ns k0))), (1, .lit (.int .i64 (k0 + (((ns.take (2 * j)).sum : Nat) : Int)))), (5, .lit (.int .i64 j))], []⟩) (fun j => j ≤ m) (fun j => m - j) 0 (Nat.zero_le _) (by rw [Nat.mul_zero, List.take_zero, List.sum_nil, show k0 + ((0 : Nat) : Int) = k0 by omega]; exact weakZ []) ?_
  intro j hj
  have hs := sumTake_le ns (2 * j)
  have hs1 := sumTake_le ns (2 * j + 1)
  have hs0 := sumTake_le ns (2 * j + 1 + 1)
  have hs2 := fun h => sum_take_nth (ns := ns) (j := 2 * j) h
  have hs3 := fun h => sum_take_nth (ns := ns) (j := 2 * j + 1) h
  have hrow : j < m → RowAt (two2 (nmk ns k0)) (j : Int) [.sh 1 (mrows 1 fInt (nth ns (2 * j)) (k0 + (((ns.take (2 * j)).sum : Nat) : Int))), .sh 1 (mrows 1 fInt (nth ns (2 * j + 1)) (k0 + (((ns.take (2 * j)).sum : Nat) : Int) + ((nth ns (2 * j) * 1 : Nat) : Int)))] := fun h => by
    refine ⟨by omega, ?_⟩
    rw [Int.toNat_natCast]
    refine two2_row (m := m) (by rw [nmk_len]; exact hm) (nmk_nth (by omega)) ?_
    rw [nmk_nth (by omega), hs2 (by omega)]
    congr 3; simp; omega
  have hrn : j < m → nth ns (2 * j) ≤ 1048576 := fun h => hr _ (nth_mem (by omega))
  have hrn2 : j < m → nth ns (2 * j + 1) ≤ 1048576 := fun h => hr _ (nth_mem (by omega))
  have hb : j < m → k0 + (((ns.take (2 * j)).sum : Nat) : Int) + ((nth ns (2 * j) * 1 : Nat) : Int) ≤ 1000000000000 := fun h => by have := hs2 (by omega); omega
  have hb2 : j < m → k0 + (((ns.take (2 * j)).sum : Nat) : Int) + ((nth ns (2 * j) * 1 : Nat) : Int) + ((nth ns (2 * j + 1) * 1 : Nat) : Int) ≤ 1000000000000 := fun h => by have := hs2 (by omega); have := hs3 (by omega); omega
  repeat' (first | refine R_index tabOk rfl rfl rfl rfl rfl (hrow (by omega)) ?_ | refine go1 ?_ | refine R_callZ rfl (heldIntS_f (nth ns (2 * j)) (k0 + (((ns.take (2 * j)).sum : Nat) : Int)) (by omega) (by omega) (hrn (by omega))) rfl rfl rfl ?_ | refine R_callZ rfl (heldIntS_f (nth ns (2 * j + 1)) (k0 + (((ns.take (2 * j)).sum : Nat) : Int) + ((nth ns (2 * j) * 1 : Nat) : Int)) (by omega) (hb (by omega)) (hrn2 (by omega))) rfl rfl rfl ?_ | refine R_callvZ rfl (heldIntS_f (nth ns (2 * j)) (k0 + (((ns.take (2 * j)).sum : Nat) : Int)) (by omega) (by omega) (hrn (by omega))) rfl rfl rfl rfl ?_ | refine R_callvZ rfl (heldIntS_f (nth ns (2 * j + 1)) (k0 + (((ns.take (2 * j)).sum : Nat) : Int) + ((nth ns (2 * j) * 1 : Nat) : Int)) (by omega) (hb (by omega)) (hrn2 (by omega))) rfl rfl rfl rfl ?_ | refine D_callZ rfl (heldIntS_f (nth ns (2 * j)) (k0 + (((ns.take (2 * j)).sum : Nat) : Int)) (by omega) (by omega) (hrn (by omega))) rfl rfl rfl ?_ | refine D_callZ rfl (heldIntS_f (nth ns (2 * j + 1)) (k0 + (((ns.take (2 * j)).sum : Nat) : Int) + ((nth ns (2 * j) * 1 : Nat) : Int)) (by omega) (hb (by omega)) (hrn2 (by omega))) rfl rfl rfl ?_ | ((first | refine R_cond rfl (fun hq => ?_) fun hq => ?_ | refine R_guardT rfl rfl rfl (fun hq => ?_) fun hq => ?_ | refine R_guardF rfl rfl rfl (fun hq => ?_) fun hq => ?_ | refine D_guardT rfl rfl rfl (fun hq => ?_) fun hq => ?_ | refine D_guardF rfl rfl rfl (fun hq => ?_) fun hq => ?_) <;> (try rw [hq]) <;> first | have hp := of_decide_eq_true hq | have hp := of_decide_eq_false hq | have hp := of_decide_eq_false (not_t hq) | have hp := of_decide_eq_true (not_f hq) | have hp := hq))
  · exfalso; omega
  · exfalso; have := hb2 (by omega); omega
  · refine ⟨j + 1, by omega, by omega, ?_⟩
    have e : k0 + (((ns.take (2 * (j + 1))).sum : Nat) : Int) = k0 + (((ns.take (2 * j)).sum : Nat) : Int) + ((nth ns (2 * j) * 1 : Nat) : Int) + ((nth ns (2 * j + 1) * 1 : Nat) : Int) := by
      rw [show 2 * (j + 1) = 2 * j + 1 + 1 by omega, hs3 (by omega), hs2 (by omega)]; omega
    rw [e]
    exact weakZ _
  · exact ret_int' rfl (by rw [List.take_of_length_le (by omega)])

/-- What lies in a net's transitions, marked on from k. -/
def netX (x : NetD) (k : Int) : List (List D) := two2 (nmk (lensII (trL x.trs)) k)

theorem heldNet_f (x : NetD) (p : Int) (hp : -9223372036854775808 ≤ p ∧ p ≤ 9223372036854775807) (k0 : Int) (h0 : 0 ≤ k0) (h1 : k0 ≤ 100000000000) (hz : cntTrs x.trs ≤ 1048576) (hl : x.trs.length ≤ 1000000) : Fn Try.prog 94 [.agg [.lit (.int .i64 p), .sh 2 (netX x k0)], .lit (.int .i64 k0)] (.lit (.int .i64 (k0 + ((cntTrs x.trs : Nat) : Int)))) [] := by
  refine Fn_of Try.func94 rfl (by kernel_rfl) rfl rfl ?_
  intro w0 A hin
  have e : (lensII (trL x.trs)).sum = cntTrs x.trs := trL_cnt x.trs
  have hH := heldTransitionS_f (lensII (trL x.trs)) x.trs.length (by simp [lensII, trL_len]) k0 h0 (by omega) (fun n hn => by
    simp only [lensII, List.mem_map] at hn
    obtain ⟨r, hr, rfl⟩ := hn
    obtain ⟨t, ht, rfl | rfl⟩ := trL_mem hr <;> have := le_cnt ht <;> omega) (by simp [lensII, trL_len]; omega)
  rw [e] at hH
  repeat' (first | refine goZ ?_ | refine R_callZ rfl (hH) rfl rfl rfl ?_ | refine R_callvZ rfl (hH) rfl rfl rfl rfl ?_ | refine D_callZ rfl (hH) rfl rfl rfl ?_ | ((first | refine R_cond rfl (fun hq => ?_) fun hq => ?_ | refine R_guardT rfl rfl rfl (fun hq => ?_) fun hq => ?_ | refine R_guardF rfl rfl rfl (fun hq => ?_) fun hq => ?_ | refine D_guardT rfl rfl rfl (fun hq => ?_) fun hq => ?_ | refine D_guardF rfl rfl rfl (fun hq => ?_) fun hq => ?_) <;> (try rw [hq]) <;> first | have hp := of_decide_eq_true hq | have hp := of_decide_eq_false hq | have hp := of_decide_eq_false (not_t hq) | have hp := of_decide_eq_true (not_f hq) | have hp := hq))
  all_goals first | (exfalso; omega) | exact ret_int' rfl rfl

theorem markNet_n (x : NetD) (k0 : Int) (h0 : 0 ≤ k0) (h1 : k0 ≤ 1000000000) (hz : cntTrs x.trs ≤ 1048576) (hl : x.trs.length ≤ 1000000) : MFn Try.prog 26 true (dNetD x) k0 (k0 + ((cntTrs x.trs : Nat) : Int)) (some [.lit (.int .i64 x.places), .sh 2 (netX x k0)]) := by
  refine ⟨plain_of Try.func26 (by kernel_rfl) (by kernel_rfl), litOk_i64.2 (by omega), fun w us bs hv hnd hun => ?_⟩
  have hlen := hv.len
  obtain ⟨u0, u1, rfl⟩ : ∃ u0 u1, us = [u0, u1] := by
    match us, hlen with
    | [u0, u1], _ => exact ⟨u0, u1, rfl⟩
  have hE0 : Ext w (w.alloc (.cells #[u0, u1] 30)) := (Ext.refl w).alloc _
  have hv1 : VRs (w.alloc (.cells #[u0, u1] 30)) (dNetD x) [u0, u1] bs := hv.keep fun k hk => hE0.heap (hv.inb k hk)
  obtain ⟨u, hu1, ⟨bd, hbd⟩, hcall⟩ := (markTransitionS_n x.trs k0 h0 (by omega) hl hz).at_ (ds1 := [.lit (.int .i64 x.places)]) (ds2 := []) hv1 hnd fun k hk => (hun k hk).ext hE0
  simp only [List.length_cons, List.length_nil, Nat.zero_add, List.getElem?_cons_succ, List.getElem?_cons_zero, Option.some.injEq] at hu1
  subst hu1
  have HCALL := Lib.hid hcall
  have HE := Lib.hid hE0
  have HI := Lib.hid hv.inb
  clear hcall hbd hnd hun hv hv1 hE0
  show Calls Try.prog 26 #[.agg #[u0, u1], .int .i64 k0] w _
  go_enter Try.func26, Try.ntmps26
  go_wp2_with fail
  refine HCALL.out.mono ?_
  rintro e w1 ⟨rfl, ht, hv2⟩
  have HT := Lib.hid ht
  have HV2 := Lib.hid hv2
  clear ht hv2
  go_wp2
  go_ret
  refine ⟨ret_int (by omega), (Turn.of_ext HE.out).trans HT.out, fun l hl => ?_⟩
  cases hl
  exact HV2.out
end Go.Proofs.Ytcbfpeplcbgpjaa
