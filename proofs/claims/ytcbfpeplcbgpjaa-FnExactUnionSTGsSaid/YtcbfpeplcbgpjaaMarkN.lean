/- The laws' helpers mark and held over slices of slices: what lies there then. No condition. -/
import Derived.Test.YtcbfpeplcbgpjaaHelps
import Derived.Test.YtcbfpeplcbgpjaaPairs
set_option linter.unusedSimpArgs false
set_option linter.unusedVariables false
set_option maxHeartbeats 2000000
namespace Go.Proofs.Ytcbfpeplcbgpjaa
open Go.ChangeShapes Go.WideShapes Go.ChangeAt Go.RowKit

theorem VRs.split3 {w : World} {d : D} {ds2 : List D} : ∀ {ds1 : List D} {us : List Value} {bs : List Nat}, VRs w (ds1 ++ d :: ds2) us bs → ∃ us1 u us2 b1 bd b2, us = us1 ++ u :: us2 ∧ bs = b1 ++ (bd ++ b2) ∧ us1.length = ds1.length ∧ VRs w ds1 us1 b1 ∧ VR w d u bd ∧ VRs w ds2 us2 b2
  | [], _, _, .cons h h' => ⟨[], _, _, [], _, _, rfl, rfl, rfl, .nil, h, h'⟩
  | _ :: ds1, _, _, .cons h h' => by
    obtain ⟨us1, u, us2, b1, bd, b2, rfl, rfl, h1, h2, h3, h4⟩ := VRs.split3 h'
    exact ⟨_ :: us1, u, us2, _ ++ b1, bd, b2, rfl, by simp, by simp [h1], .cons h h2, h3, h4⟩
theorem VR.slice {w : World} {m : Nat} {xs : List (List D)} {u : Value} {bs : List Nat} (h : VR w (.sh m xs) u bs) : ∃ a c, u = .slice a xs.length c := by
  cases h with
  | shnil h1 h2 => exact ⟨_, _, rfl⟩
  | sh h1 h2 h3 h4 h5 h6 => exact ⟨_, _, rfl⟩
/-- One cell of a row marked. -/
theorem MFn.at_ {P : Program} {fid : FuncId} {d d' : D} {k v : Int} (hF : MFn P fid false [d] k v (some [d'])) {w : World} {ds1 ds2 : List D} {us : List Value} {bs : List Nat} (h : VRs w (ds1 ++ d :: ds2) us bs) (hnd : bs.Nodup) (hun : ∀ k ∈ bs, Un w k) :
    ∃ u, us[ds1.length]? = some u ∧ (∃ bd, VR w d u bd) ∧ Calls P fid #[u, .int .i64 k] w fun e w' => e = .returned (.int .i64 v) ∧ Turn bs w w' ∧ VRs w' (ds1 ++ d' :: ds2) us bs := by
  obtain ⟨us1, u, us2, b1, bd, b2, rfl, rfl, h1, h2, h3, h4⟩ := VRs.split3 h
  rw [List.nodup_append] at hnd
  obtain ⟨n1, n2, n3⟩ := hnd
  rw [List.nodup_append] at n2
  obtain ⟨n4, n5, n6⟩ := n2
  refine ⟨u, by rw [← h1, List.getElem?_append_right (Nat.le_refl _), Nat.sub_self]; rfl, ⟨bd, h3⟩, ?_⟩
  have h3' : VRs w [d] [u] bd := by simpa using VRs.cons h3 .nil
  refine (hF.calls w [u] bd h3' n4 fun k hk => hun k (by simp [hk])).mono ?_
  rintro e w' ⟨he, ht, hv⟩
  refine ⟨he, ht.mono fun k hk => by simp [hk], ?_⟩
  obtain ⟨u', e1, h5⟩ := vrs_one (hv _ rfl)
  cases e1
  refine VRs.append (h2.keep fun k hk => ht.block k (h2.inb k hk) fun hm => n3 k hk k (by simp [hm]) rfl) (.cons h5 (h4.keep fun k hk => ht.block k (h4.inb k hk) fun hm => n6 k hm k hk rfl))

/-- Slices of numbers of these lengths, numbered on from k. -/
def nmk : List Nat → Int → List D
  | [], _ => []
  | n :: r, k => .sh 1 (mrows 1 fInt n k) :: nmk r (k + ((n * 1 : Nat) : Int))
def one1 (l : List D) : List (List D) := l.map fun d => [d]
def two2 : List D → List (List D)
  | a :: b :: l => [a, b] :: two2 l
  | _ => []
theorem one1_flat (l : List D) : (one1 l).flatten = l := by induction l with
  | nil => rfl
  | cons a l ih => simpa [one1] using ih
theorem nmk_len : ∀ (l : List Nat) (k : Int), (nmk l k).length = l.length
  | [], _ => rfl
  | _ :: l, k => by simp [nmk, nmk_len l]
theorem nmk_append : ∀ (l r : List Nat) (k : Int), nmk (l ++ r) k = nmk l k ++ nmk r (k + (l.sum : Nat))
  | [], _, _ => by simp [nmk]
  | n :: l, r, k => by
    simp only [List.cons_append, nmk, nmk_append l r, List.sum_cons, Nat.mul_one]
    rw [show k + (n : Int) + ((l.sum : Nat) : Int) = k + ((n + l.sum : Nat) : Int) by omega]

/-! ### Slices of slices of numbers -/
def cntII (l : List (List Int)) : Nat := (l.map fun y => y.length).sum
def lensII (l : List (List Int)) : List Nat := l.map fun y => y.length
def shI (r : List Int) : D := .sh 1 (ints r)
theorem flat_dII : ∀ l : List (List Int), (l.map dII).flatten = l.map shI
  | [] => rfl
  | a :: l => by rw [List.map_cons, List.flatten_cons, flat_dII l]; rfl
/-- What lies there when the first j are marked. -/
def markX (l : List (List Int)) (k0 : Int) (j : Nat) : List D := nmk (lensII (l.take j)) k0 ++ (l.drop j).map shI
theorem markX_zero (l : List (List Int)) (k0 : Int) : markX l k0 0 = (l.map dII).flatten := by rw [flat_dII]; simp [markX, lensII, nmk]
theorem markX_end (l : List (List Int)) (k0 : Int) : markX l k0 l.length = nmk (lensII l) k0 := by simp [markX]
theorem markX_at {l : List (List Int)} {k0 : Int} {j : Nat} (h : j < l.length) : markX l k0 j = nmk (lensII (l.take j)) k0 ++ .sh 1 (ints (nth l j)) :: (l.drop (j + 1)).map shI := by
  rw [markX, drop_nth h, List.map_cons]; rfl
theorem markX_next {l : List (List Int)} {k0 : Int} {j : Nat} (h : j < l.length) : markX l k0 (j + 1) = nmk (lensII (l.take j)) k0 ++ .sh 1 (mrows 1 fInt (nth l j).length (k0 + (cntII (l.take j) : Nat))) :: (l.drop (j + 1)).map shI := by
  have e : lensII (l.take (j + 1)) = lensII (l.take j) ++ [(nth l j).length] := by simp [lensII, take_nth h]
  rw [markX, e, nmk_append]
  simp [nmk, cntII, lensII]
theorem cntII_next {l : List (List Int)} {j : Nat} (h : j < l.length) : cntII (l.take (j + 1)) = cntII (l.take j) + (nth l j).length := by
  simp [cntII, take_nth h]
theorem cntII_le (l : List (List Int)) (j : Nat) : cntII (l.take j) ≤ cntII l := by
  have e : cntII l = cntII (l.take j) + cntII (l.drop j) := by
    rw [cntII, cntII, cntII, ← List.sum_append, ← List.map_append, List.take_append_drop]
  omega

set_option maxRecDepth 20000 in
set_option maxHeartbeats 1600000 in
theorem markIntSS_m (l : List (List Int)) (k0 : Int) (h0 : 0 ≤ k0) (h1 : k0 ≤ 100000000000) (hr : ∀ r ∈ l, r.length ≤ 1048576) (hl : l.length ≤ 100000000) (hz : cntII l ≤ 100000000) : MFn Try.prog 21 false [.sh 1 (l.map dII)] k0 (k0 + ((cntII l : Nat) : Int)) (some [.sh 1 (one1 (nmk (lensII l) k0))]) := by
  refine ⟨plain_of Try.func21 (by kernel_rfl) (by kernel_rfl), litOk_i64.2 (by omega), fun w us bs hv hnd hun => ?_⟩
  obtain ⟨u, rfl, hu⟩ := vrs_one hv
  clear hv
  generalize hxs : l.map dII = xs at hu
  have hxl : xs.length = l.length := by rw [← hxs]; simp
  cases hu with
  | shnil q1 q2 =>
    obtain rfl : l = [] := List.length_eq_zero_iff.1 (by rw [← hxl]; rfl)
    rename_i a cap
    show Calls Try.prog 21 #[.slice a 0 cap, .int .i64 k0] w _
    clear hnd hun
    have hn1 : ([] : List (List Int)).length < 1 := by decide
    go_enter Try.func21, Try.ntmps21
    go_wp2
    go_loopw [1, 5] (fun v i wr => v = .int .i64 k0 ∧ i = .int .i64 0 ∧ w = wr) (fun _ _ _ => 0)
    case atStart => exact ⟨rfl, rfl, rfl⟩
    case round =>
      obtain ⟨rfl, rfl, rfl⟩ := hrel
      go_wp2
      go_ret
      refine ⟨ret_int (by simp [cntII]), Turn.refl _ _, fun l hl => ?_⟩
      cases hl
      have : VRs w [.sh 1 []] [.slice a 0 cap] [] := by simpa using VRs.cons (VR.shnil (n := 1) q1 q2) .nil
      simpa [lensII, nmk, one1] using this
  | sh q1 q2 q3 q4 q5 q6 =>
    rename_i b o cap us bs
    rw [List.nodup_cons] at hnd
    obtain ⟨hb, hnd⟩ := hnd
    have hul : us.length = l.length := by rw [q5.len, ← hxs, ← markX_zero l k0, markX]; simp [lensII, nmk]
    have HX0 : Hid (VRs w (markX l k0 0) us bs) := Lib.hid (by rw [markX_zero, hxs]; exact q5)
    have HND := Lib.hid hnd
    have HUN := Lib.hid hun
    have HB := Lib.hid hb
    have HC := Lib.hid q6
    have HR := Lib.hid hr
    have HL := Lib.hid q1
    have HXS := Lib.hid hxs
    rw [hxl] at q2 ⊢
    clear q1 q5 q6 hnd hun hb hr hxs
    show Calls Try.prog 21 #[.slice (some ⟨b, o, none⟩) l.length cap, .int .i64 k0] w _
    go_enter Try.func21, Try.ntmps21
    go_wp2
    go_loopw [1, 5] (fun v i wr => ∃ j n : Nat, j ≤ l.length ∧ i = .int .i64 j ∧ v = .int .i64 (k0 + (n : Int)) ∧ n = cntII (l.take j) ∧ Hid (VRs wr (markX l k0 j) us bs) ∧ Hid (Turn bs w wr)) (fun _ i _ => l.length - (intOf i).toNat)
    case atStart => exact ⟨0, 0, Nat.zero_le _, rfl, by simp, by simp [cntII], HX0, Lib.hid (Turn.refl _ _)⟩
    case round =>
      obtain ⟨j, n, hj, rfl, rfl, hn, HX, HT⟩ := hrel
      have hn1 := cntII_le l j
      have hnb : n ≤ cntII l := by omega
      have HN := Lib.hid hn
      clear hn
      by_cases hlt : j < l.length
      · have hcn := cntII_next hlt
        have hc2 := cntII_le l (j + 1)
        have hrl := HR.out _ (nth_mem hlt)
        have hx := HX.out
        rw [markX_at hlt] at hx
        obtain ⟨u, hu1, ⟨bd, hbd⟩, hcall⟩ := (markIntS_m (nth l j) (k0 + (n : Int)) (by omega) (by omega) hrl).at_ hx HND.out (fun k hk => HT.out.un_all (HUN.out k (by simp [hk])))
        obtain ⟨pa, pc, rfl⟩ := hbd.slice
        rw [len_ints] at hu1 hcall
        have hu2 : us[j]? = some (.slice pa (nth l j).length pc) := by
          rw [← hu1, nmk_len]; simp [lensII, Nat.min_eq_left (Nat.le_of_lt hlt)]
        have hd0 : wr.cell? ⟨b, o + j, none⟩ = some (.slice pa (nth l j).length pc) := by
          rw [cell_of_heap (HT.out.block b q4 HB.out), HC.out j (by omega)]; exact hu2
        have HCALL := Lib.hid hcall
        clear hcall hx hbd hu1 hu2 hn1 hc2
        go_wp2_with fail
        refine HCALL.out.mono ?_
        rintro e w2 ⟨rfl, ht2, hv2⟩
        rw [HN.out, ← markX_next hlt] at hv2
        have HX2 := Lib.hid hv2
        have HT2 := Lib.hid (HT.out.trans ht2)
        clear hv2 ht2
        go_wp2
        go_roundw
        case rel => exact ⟨j + 1, n + (nth l j).length, by omega, by go_num, by congr 1; omega, by rw [hcn, HN.out], HX2, HT2⟩
        case measure => simp [intOf]; omega
      · obtain rfl : j = l.length := by omega
        go_wp2
        go_ret
        refine ⟨ret_int (by rw [HN.out, List.take_length]), HT.out.mono fun k hk => List.mem_cons_of_mem _ hk, fun l2 hl2 => ?_⟩
        cases hl2
        have hx := HX.out
        rw [markX_end] at hx
        have : VR wr (.sh 1 (one1 (nmk (lensII l) k0))) (.slice (some ⟨b, o, none⟩) (one1 (nmk (lensII l) k0)).length cap) (b :: bs) := by
          refine .sh (by intro r hr; simp only [one1, List.mem_map] at hr; obtain ⟨d, _, rfl⟩ := hr; rfl) (by simp [one1, nmk_len, lensII]; exact q2) q3 ?_ (by rw [one1_flat]; exact hx) fun j hj => ?_
          · have := (Array.getElem?_eq_some_iff.1 ((HT.out.block b q4 HB.out).trans (Array.getElem?_eq_getElem q4))).1; exact this
          · rw [cell_of_heap (HT.out.block b q4 HB.out)]; exact HC.out j hj
        have hlen : (one1 (nmk (lensII l) k0)).length = l.length := by simp [one1, nmk_len, lensII]
        rw [hlen] at this
        simpa using VRs.cons this .nil

theorem nmk_nth : ∀ {ns : List Nat} {k0 : Int} {j : Nat}, j < ns.length → (nmk ns k0)[j]? = some (.sh 1 (mrows 1 fInt (nth ns j) (k0 + (((ns.take j).sum : Nat) : Int))))
  | [], _, _, h => by simp at h
  | n :: ns, k0, 0, _ => by simp [nmk, nth_cons_zero]
  | n :: ns, k0, j + 1, h => by
    simp only [nmk, List.getElem?_cons_succ, nth_cons_succ, List.take_succ_cons, List.sum_cons]
    rw [nmk_nth (by simpa using h)]
    congr 3; simp; omega
theorem nmk_row {ns : List Nat} {k0 : Int} {j : Nat} (h : j < ns.length) : RowAt (one1 (nmk ns k0)) (j : Int) [.sh 1 (mrows 1 fInt (nth ns j) (k0 + (((ns.take j).sum : Nat) : Int)))] :=
  ⟨by omega, by rw [Int.toNat_natCast, one1, List.getElem?_map, nmk_nth h]; rfl⟩
theorem sumTake_le (ns : List Nat) (j : Nat) : (ns.take j).sum ≤ ns.sum := by
  have e : ns.sum = (ns.take j).sum + (ns.drop j).sum := by rw [← List.sum_append, List.take_append_drop]
  omega
theorem sum_take_nth {ns : List Nat} {j : Nat} (h : j < ns.length) : (ns.take (j + 1)).sum = (ns.take j).sum + nth ns j := by simp [take_nth h]

theorem heldIntSS_f (ns : List Nat) (k0 : Int) (h0 : 0 ≤ k0) (h1 : k0 + ((ns.sum : Nat) : Int) ≤ 1000000000000) (hr : ∀ n ∈ ns, n ≤ 1048576) (hl : ns.length ≤ 100000000) : Fn Try.prog 22 [.sh 1 (one1 (nmk ns k0)), .lit (.int .i64 k0)] (.lit (.int .i64 (k0 + ((ns.sum : Nat) : Int)))) [] := by
  refine Fn_of Try.func22 rfl (by kernel_rfl) rfl rfl ?_
  intro w0 A hin
  have hz : (one1 (nmk ns k0)).length = ns.length := by simp [one1, nmk_len]
  repeat' (first | refine goZ ?_ | ((first | refine R_cond rfl (fun hq => ?_) fun hq => ?_ | refine R_guardT rfl rfl rfl (fun hq => ?_) fun hq => ?_ | refine R_guardF rfl rfl rfl (fun hq => ?_) fun hq => ?_ | refine D_guardT rfl rfl rfl (fun hq => ?_) fun hq => ?_ | refine D_guardF rfl rfl rfl (fun hq => ?_) fun hq => ?_) <;> (try rw [hq]) <;> first | have hp := of_decide_eq_true hq | have hp := of_decide_eq_false hq | have hp := of_decide_eq_false (not_t hq) | have hp := of_decide_eq_true (not_f hq) | have hp := hq))
  refine W_loop (fun j : Nat => ⟨_, [(0, .sh 1 (one1 (nmk ns k0))), (1, .lit (.int .i64 (k0 + (((ns.take j).sum : Nat) : Int)))), (5, .lit (.int .i64 j))], []⟩) (fun j => j ≤ ns.length) (fun j => ns.length - j) 0 (Nat.zero_le _) (by rw [List.take_zero, List.sum_nil, show k0 + ((0 : Nat) : Int) = k0 by omega]; exact weakZ []) ?_
  intro j hj
  have hs := sumTake_le ns j
  have hs1 := sumTake_le ns (j + 1)
  have hs2 := fun h => sum_take_nth (ns := ns) (j := j) h
  have hrow := fun h => nmk_row (ns := ns) (k0 := k0) (j := j) h
  have hrn : j < ns.length → nth ns j ≤ 1048576 := fun h => hr _ (nth_mem h)
  repeat' (first | refine R_index tabOk rfl rfl rfl rfl rfl (hrow (by omega)) ?_ | refine go1 ?_ | refine R_callZ rfl (heldIntS_f (nth ns j) (k0 + (((ns.take j).sum : Nat) : Int)) (by omega) (by omega) (hrn (by omega))) rfl rfl rfl ?_ | refine R_callvZ rfl (heldIntS_f (nth ns j) (k0 + (((ns.take j).sum : Nat) : Int)) (by omega) (by omega) (hrn (by omega))) rfl rfl rfl rfl ?_ | refine D_callZ rfl (heldIntS_f (nth ns j) (k0 + (((ns.take j).sum : Nat) : Int)) (by omega) (by omega) (hrn (by omega))) rfl rfl rfl ?_ | ((first | refine R_cond rfl (fun hq => ?_) fun hq => ?_ | refine R_guardT rfl rfl rfl (fun hq => ?_) fun hq => ?_ | refine R_guardF rfl rfl rfl (fun hq => ?_) fun hq => ?_ | refine D_guardT rfl rfl rfl (fun hq => ?_) fun hq => ?_ | refine D_guardF rfl rfl rfl (fun hq => ?_) fun hq => ?_) <;> (try rw [hq]) <;> first | have hp := of_decide_eq_true hq | have hp := of_decide_eq_false hq | have hp := of_decide_eq_false (not_t hq) | have hp := of_decide_eq_true (not_f hq) | have hp := hq))
  · exfalso; have := hs2 (by omega); omega
  · refine ⟨j + 1, by omega, by omega, ?_⟩
    have e : k0 + (((ns.take (j + 1)).sum : Nat) : Int) = k0 + (((ns.take j).sum : Nat) : Int) + ((nth ns j * 1 : Nat) : Int) := by have := hs2 (by omega); omega
    rw [e]
    exact weakZ _
  · exact ret_int' rfl (by rw [List.take_of_length_le (by omega)])

theorem eqIntSS_f (l : List (List Int)) : Fn Try.prog 18 [.sh 1 (l.map dII), .sh 1 (l.map dII)] (.lit (.bool true)) [] := by
  refine Fn_of Try.func18 rfl (by kernel_rfl) rfl rfl ?_
  intro w0 A hin
  have hz := given_len hin (i := 0) rfl
  have hzl : (l.map dII).length = l.length := by simp
  rw [hzl] at hz
  repeat' (first | refine goZ ?_ | ((first | refine R_cond rfl (fun hq => ?_) fun hq => ?_ | refine R_guardT rfl rfl rfl (fun hq => ?_) fun hq => ?_ | refine R_guardF rfl rfl rfl (fun hq => ?_) fun hq => ?_ | refine D_guardT rfl rfl rfl (fun hq => ?_) fun hq => ?_ | refine D_guardF rfl rfl rfl (fun hq => ?_) fun hq => ?_) <;> (try rw [hq]) <;> first | have hp := of_decide_eq_true hq | have hp := of_decide_eq_false hq | have hp := of_decide_eq_false (not_t hq) | have hp := of_decide_eq_true (not_f hq) | have hp := hq))
  all_goals first | exact ret_bool' rfl rfl | skip
  all_goals first | (exfalso; omega) | skip
  refine W_loop (fun j : Nat => ⟨_, [(0, .sh 1 (l.map dII)), (1, .sh 1 (l.map dII)), (5, .lit (.int .i64 j))], []⟩) (fun j => j ≤ l.length) (fun j => l.length - j) 0 (Nat.zero_le _) (weakZ []) ?_
  intro j hj
  repeat' (first | refine goZ ?_ | refine R_callZ rfl (eqIntS_f (nth l j)) rfl rfl rfl ?_ | refine R_callvZ rfl (eqIntS_f (nth l j)) rfl rfl rfl rfl ?_ | refine D_callZ rfl (eqIntS_f (nth l j)) rfl rfl rfl ?_ | ((first | refine R_cond rfl (fun hq => ?_) fun hq => ?_ | refine R_guardT rfl rfl rfl (fun hq => ?_) fun hq => ?_ | refine R_guardF rfl rfl rfl (fun hq => ?_) fun hq => ?_ | refine D_guardT rfl rfl rfl (fun hq => ?_) fun hq => ?_ | refine D_guardF rfl rfl rfl (fun hq => ?_) fun hq => ?_) <;> (try rw [hq]) <;> first | have hp := of_decide_eq_true hq | have hp := of_decide_eq_false hq | have hp := of_decide_eq_false (not_t hq) | have hp := of_decide_eq_true (not_f hq) | have hp := hq))
  · exact ⟨j + 1, by omega, by omega, weakZ _⟩
  · exact ret_bool' rfl rfl
/-- What a law asks of a list of pairs. -/
theorem two_facts {l : List (List Int)} (h : (∀ r ∈ l, r.length = 2) ∧ l.length ≤ 16000000) : (∀ r ∈ l, r.length ≤ 1048576) ∧ (∀ n ∈ lensII l, n ≤ 1048576) ∧ (lensII l).length = l.length ∧ (lensII l).sum = cntII l ∧ cntII l = 2 * l.length ∧ l.length ≤ 16000000 := by
  refine ⟨fun r hr => by rw [h.1 r hr]; omega, fun n hn => ?_, by simp [lensII], rfl, ?_, h.2⟩
  · simp only [lensII, List.mem_map] at hn
    obtain ⟨r, hr, rfl⟩ := hn
    rw [h.1 r hr]; omega
  · have h1 := h.1
    clear h
    induction l with
    | nil => rfl
    | cons a l ih =>
      have := ih fun r hr => h1 r (by simp [hr])
      have ha := h1 a (by simp)
      simp only [cntII, List.map_cons, List.sum_cons, List.length_cons] at this ⊢
      omega
end Go.Proofs.Ytcbfpeplcbgpjaa
