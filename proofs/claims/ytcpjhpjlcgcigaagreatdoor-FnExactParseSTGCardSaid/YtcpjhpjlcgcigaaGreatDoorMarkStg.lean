/- Pairs of numbers that a test takes. No condition. The laws' helpers mark and held over slices of slices: what lies there then. No condition. The laws' helpers mark and held over nets: what lies there then. No condition. The laws' helpers mark and held over graphs: what lies there then. No condition. -/
import Derived.Test.YtcpjhpjlcgcigaaGreatDoorPick
import Derived.Test.YtcpjhpjlcgcigaaGreatDoorHelps
import Derived.Test.YtcpjhpjlcgcigaaGreatDoorIx
set_option linter.unusedSimpArgs false
set_option linter.unusedVariables false
set_option maxHeartbeats 2000000
namespace Go.Proofs.YtcpjhpjlcgcigaaGreatDoor
open Go.ChangeShapes Go.WideShapes Go.ChangeAt Go.RowKit

def dII (l : List Int) : List D := [.sh 1 (ints l)]
/-- The pairs of i with what is behind it and below m, as far as p takes them. -/
def rowP (p : Nat → Bool) (i m : Nat) : List (List Int) := ((List.range m).filter fun k => decide (i < k) && p k).map fun k : Nat => [(i : Int), (k : Int)]
theorem rowP_yes {p : Nat → Bool} {i m : Nat} (h : i < m) (hp : p m = true) : rowP p i (m + 1) = rowP p i m ++ [[(i : Int), (m : Int)]] := by
  simp [rowP, List.range_succ, List.filter_append, h, hp]
theorem rowP_no {p : Nat → Bool} {i m : Nat} (hp : p m = false) : rowP p i (m + 1) = rowP p i m := by
  simp [rowP, List.range_succ, List.filter_append, hp]
theorem rowP_start (p : Nat → Bool) (i : Nat) : rowP p i (i + 1) = [] := by
  simp only [rowP, List.map_eq_nil_iff, List.filter_eq_nil_iff, List.mem_range, Bool.and_eq_true, decide_eq_true_eq]
  intro k hk; omega
theorem rowP_len (p : Nat → Bool) (i m : Nat) : (rowP p i m).length ≤ m := by
  have := List.length_filter_le (fun k => decide (i < k) && p k) (List.range m)
  simpa [rowP] using this
def pairsP (p : Nat → Nat → Bool) (n : Nat) : Nat → List (List Int)
  | 0 => []
  | i + 1 => pairsP p n i ++ rowP (p i) i n
theorem pairsP_len (p : Nat → Nat → Bool) (n : Nat) : ∀ i, (pairsP p n i).length ≤ i * n
  | 0 => by simp [pairsP]
  | i + 1 => by
    have h1 := pairsP_len p n i; have h2 := rowP_len (p i) i n
    simp only [pairsP, List.length_append, Nat.add_mul]; omega
theorem row2 {l : List (List Int)} {p : Nat → Bool} {i k : Nat} (h : i < k) (hp : p k = true) : ((l ++ rowP p i (k + 1)).map dII) = (l ++ rowP p i k).map dII ++ [[.sh 1 [[.lit (.int .i64 i)], [.lit (.int .i64 k)]]]] := by
  rw [rowP_yes h hp, ← List.append_assoc, List.map_append]; rfl

end Go.Proofs.YtcpjhpjlcgcigaaGreatDoor
namespace Go.Proofs.YtcpjhpjlcgcigaaGreatDoor
open Go.ChangeShapes Go.WideShapes Go.ChangeAt Go.RowKit

theorem VRs.split3 {w : World} {d : D} {ds2 : List D} : ∀ {ds1 : List D} {us : List Value} {bs : List Nat}, VRs w (ds1 ++ d :: ds2) us bs → ∃ us1 u us2 b1 bd b2, us = us1 ++ u :: us2 ∧ bs = b1 ++ (bd ++ b2) ∧ us1.length = ds1.length ∧ VRs w ds1 us1 b1 ∧ VR w d u bd ∧ VRs w ds2 us2 b2
  | [], _, _, .cons h h' => ⟨[], _, _, [], _, _, rfl, rfl, rfl, .nil, h, h'⟩
  | _ :: ds1, _, _, .cons h h' => by
    obtain ⟨us1, u, us2, b1, bd, b2, rfl, rfl, h1, h2, h3, h4⟩ := VRs.split3 h'
    exact ⟨_ :: us1, u, us2, _ ++ b1, bd, b2, rfl, by simp, by simp [h1], .cons h h2, h3, h4⟩
theorem VR.slice {w : World} {m : Nat} {xs : List (List D)} {u : Value} {bs : List Nat} (h : VR w (.sh m xs) u bs) : ∃ a c, u = .slice a xs.length c := by
  cases h with
  | shnil h1 h2 => exact ⟨_, _, rfl⟩
  | sh h1 h2 h3 h4 h5 h6 => exact ⟨_, _, rfl⟩
/-- One cell of a row marked. -/
theorem MFn.at_ {P : Program} {fid : FuncId} {d d' : D} {k v : Int} (hF : MFn P fid false [d] k v (some [d'])) {w : World} {ds1 ds2 : List D} {us : List Value} {bs : List Nat} (h : VRs w (ds1 ++ d :: ds2) us bs) (hnd : bs.Nodup) (hun : ∀ k ∈ bs, Un w k) :
    ∃ u, us[ds1.length]? = some u ∧ (∃ bd, VR w d u bd) ∧ Calls P fid #[u, .int .i64 k] w fun e w' => e = .returned (.int .i64 v) ∧ Turn bs w w' ∧ VRs w' (ds1 ++ d' :: ds2) us bs := by
  obtain ⟨us1, u, us2, b1, bd, b2, rfl, rfl, h1, h2, h3, h4⟩ := VRs.split3 h
  rw [List.nodup_append] at hnd
  obtain ⟨n1, n2, n3⟩ := hnd
  rw [List.nodup_append] at n2
  obtain ⟨n4, n5, n6⟩ := n2
  refine ⟨u, by rw [← h1, List.getElem?_append_right (Nat.le_refl _), Nat.sub_self]; rfl, ⟨bd, h3⟩, ?_⟩
  have h3' : VRs w [d] [u] bd := by simpa using VRs.cons h3 .nil
  refine (hF.calls w [u] bd h3' n4 fun k hk => hun k (by simp [hk])).mono ?_
  rintro e w' ⟨he, ht, hv⟩
  refine ⟨he, ht.mono fun k hk => by simp [hk], ?_⟩
  obtain ⟨u', e1, h5⟩ := vrs_one (hv _ rfl)
  cases e1
  refine VRs.append (h2.keep fun k hk => ht.block k (h2.inb k hk) fun hm => n3 k hk k (by simp [hm]) rfl) (.cons h5 (h4.keep fun k hk => ht.block k (h4.inb k hk) fun hm => n6 k hm k hk rfl))

/-- Slices of numbers of these lengths, numbered on from k. -/
def nmk : List Nat → Int → List D
  | [], _ => []
  | n :: r, k => .sh 1 (mrows 1 fInt n k) :: nmk r (k + ((n * 1 : Nat) : Int))
def one1 (l : List D) : List (List D) := l.map fun d => [d]
def two2 : List D → List (List D)
  | a :: b :: l => [a, b] :: two2 l
  | _ => []
theorem one1_flat (l : List D) : (one1 l).flatten = l := by induction l with
  | nil => rfl
  | cons a l ih => simpa [one1] using ih
theorem nmk_len : ∀ (l : List Nat) (k : Int), (nmk l k).length = l.length
  | [], _ => rfl
  | _ :: l, k => by simp [nmk, nmk_len l]
theorem nmk_append : ∀ (l r : List Nat) (k : Int), nmk (l ++ r) k = nmk l k ++ nmk r (k + (l.sum : Nat))
  | [], _, _ => by simp [nmk]
  | n :: l, r, k => by
    simp only [List.cons_append, nmk, nmk_append l r, List.sum_cons, Nat.mul_one]
    rw [show k + (n : Int) + ((l.sum : Nat) : Int) = k + ((n + l.sum : Nat) : Int) by omega]

/-! ### Slices of slices of numbers -/
def cntII (l : List (List Int)) : Nat := (l.map fun y => y.length).sum
def lensII (l : List (List Int)) : List Nat := l.map fun y => y.length
def shI (r : List Int) : D := .sh 1 (ints r)
theorem flat_dII : ∀ l : List (List Int), (l.map dII).flatten = l.map shI
  | [] => rfl
  | a :: l => by rw [List.map_cons, List.flatten_cons, flat_dII l]; rfl
/-- What lies there when the first j are marked. -/
def markX (l : List (List Int)) (k0 : Int) (j : Nat) : List D := nmk (lensII (l.take j)) k0 ++ (l.drop j).map shI
theorem markX_zero (l : List (List Int)) (k0 : Int) : markX l k0 0 = (l.map dII).flatten := by rw [flat_dII]; simp [markX, lensII, nmk]
theorem markX_end (l : List (List Int)) (k0 : Int) : markX l k0 l.length = nmk (lensII l) k0 := by simp [markX]
theorem markX_at {l : List (List Int)} {k0 : Int} {j : Nat} (h : j < l.length) : markX l k0 j = nmk (lensII (l.take j)) k0 ++ .sh 1 (ints (nth l j)) :: (l.drop (j + 1)).map shI := by
  rw [markX, drop_nth h, List.map_cons]; rfl
theorem markX_next {l : List (List Int)} {k0 : Int} {j : Nat} (h : j < l.length) : markX l k0 (j + 1) = nmk (lensII (l.take j)) k0 ++ .sh 1 (mrows 1 fInt (nth l j).length (k0 + (cntII (l.take j) : Nat))) :: (l.drop (j + 1)).map shI := by
  have e : lensII (l.take (j + 1)) = lensII (l.take j) ++ [(nth l j).length] := by simp [lensII, take_nth h]
  rw [markX, e, nmk_append]
  simp [nmk, cntII, lensII]
theorem cntII_next {l : List (List Int)} {j : Nat} (h : j < l.length) : cntII (l.take (j + 1)) = cntII (l.take j) + (nth l j).length := by
  simp [cntII, take_nth h]
theorem cntII_le (l : List (List Int)) (j : Nat) : cntII (l.take j) ≤ cntII l := by
  have e : cntII l = cntII (l.take j) + cntII (l.drop j) := by
    rw [cntII, cntII, cntII, ← List.sum_append, ← List.map_append, List.take_append_drop]
  omega

theorem nmk_nth : ∀ {ns : List Nat} {k0 : Int} {j : Nat}, j < ns.length → (nmk ns k0)[j]? = some (.sh 1 (mrows 1 fInt (nth ns j) (k0 + (((ns.take j).sum : Nat) : Int))))
  | [], _, _, h => by simp at h
  | n :: ns, k0, 0, _ => by simp [nmk, nth_cons_zero]
  | n :: ns, k0, j + 1, h => by
    simp only [nmk, List.getElem?_cons_succ, nth_cons_succ, List.take_succ_cons, List.sum_cons]
    rw [nmk_nth (by simpa using h)]
    congr 3; simp; omega
theorem nmk_row {ns : List Nat} {k0 : Int} {j : Nat} (h : j < ns.length) : RowAt (one1 (nmk ns k0)) (j : Int) [.sh 1 (mrows 1 fInt (nth ns j) (k0 + (((ns.take j).sum : Nat) : Int)))] :=
  ⟨by omega, by rw [Int.toNat_natCast, one1, List.getElem?_map, nmk_nth h]; rfl⟩
theorem sumTake_le (ns : List Nat) (j : Nat) : (ns.take j).sum ≤ ns.sum := by
  have e : ns.sum = (ns.take j).sum + (ns.drop j).sum := by rw [← List.sum_append, List.take_append_drop]
  omega
theorem sum_take_nth {ns : List Nat} {j : Nat} (h : j < ns.length) : (ns.take (j + 1)).sum = (ns.take j).sum + nth ns j := by simp [take_nth h]

end Go.Proofs.YtcpjhpjlcgcigaaGreatDoor
namespace Go.Proofs.YtcpjhpjlcgcigaaGreatDoor
open Go.ChangeShapes Go.WideShapes Go.ChangeAt Go.RowKit

def trL : List Tr → List (List Int)
  | [] => []
  | t :: l => t.pre :: t.post :: trL l
theorem trL_len : ∀ l : List Tr, (trL l).length = 2 * l.length
  | [] => rfl
  | _ :: l => by simp only [trL, List.length_cons, trL_len l]; omega
theorem trL_pre : ∀ {l : List Tr} {j : Nat}, j < l.length → nth (trL l) (2 * j) = (nth l j).pre
  | [], _, h => by simp at h
  | t :: l, 0, _ => by rw [nth_cons_zero]; exact nth_cons_zero ..
  | t :: l, j + 1, h => by rw [show 2 * (j + 1) = 2 * j + 1 + 1 by omega, trL, nth_cons_succ, nth_cons_succ, nth_cons_succ, trL_pre (by simpa using h)]
theorem trL_post : ∀ {l : List Tr} {j : Nat}, j < l.length → nth (trL l) (2 * j + 1) = (nth l j).post
  | [], _, h => by simp at h
  | t :: l, 0, _ => by rw [nth_cons_zero, trL, nth_cons_succ, nth_cons_zero]
  | t :: l, j + 1, h => by rw [show 2 * (j + 1) + 1 = 2 * j + 1 + 1 + 1 by omega, trL, nth_cons_succ, nth_cons_succ, nth_cons_succ, trL_post (by simpa using h)]
theorem flat_dTr : ∀ l : List Tr, (l.map dTr).flatten = (trL l).map shI
  | [] => rfl
  | t :: l => by rw [List.map_cons, List.flatten_cons, flat_dTr l]; rfl
theorem trL_cnt : ∀ l : List Tr, cntII (trL l) = cntTrs l
  | [] => rfl
  | t :: l => by
    have := trL_cnt l
    simp only [cntII, cntTrs, trL, List.map_cons, List.sum_cons] at this ⊢; omega
theorem trL_mem {l : List Tr} {r : List Int} (h : r ∈ trL l) : ∃ t ∈ l, r = t.pre ∨ r = t.post := by
  induction l with
  | nil => simp [trL] at h
  | cons t l ih =>
    simp only [trL, List.mem_cons] at h
    rcases h with rfl | rfl | h
    · exact ⟨t, by simp, Or.inl rfl⟩
    · exact ⟨t, by simp, Or.inr rfl⟩
    · obtain ⟨s, h1, h2⟩ := ih h; exact ⟨s, by simp [h1], h2⟩
theorem two2_flat : ∀ (n : Nat) (l : List D), l.length = 2 * n → (two2 l).flatten = l ∧ (two2 l).length = n ∧ ∀ r ∈ two2 l, r.length = 2
  | 0, l, h => by
    obtain rfl : l = [] := List.length_eq_zero_iff.1 (by omega)
    simp [two2]
  | n + 1, [], h => by simp at h
  | n + 1, [_], h => by simp at h; omega
  | n + 1, a :: b :: l, h => by
    obtain ⟨h1, h2, h3⟩ := two2_flat n l (by simp at h; omega)
    refine ⟨by simp [two2, h1], by simp [two2, h2], fun r hr => ?_⟩
    simp only [two2, List.mem_cons] at hr
    rcases hr with rfl | hr
    · rfl
    · exact h3 r hr
theorem le_cnt {l : List Tr} {t : Tr} (h : t ∈ l) : t.pre.length ≤ cntTrs l ∧ t.post.length ≤ cntTrs l := by
  induction l with
  | nil => cases h
  | cons a l ih =>
    simp only [cntTrs, List.map_cons, List.sum_cons] at ih ⊢
    rcases List.mem_cons.1 h with rfl | h
    · omega
    · have := ih h; omega

set_option maxRecDepth 20000 in
set_option maxHeartbeats 1600000 in
theorem markTransitionS_n (l : List Tr) (k0 : Int) (h0 : 0 ≤ k0) (h1 : k0 ≤ 100000000000) (hl : l.length ≤ 1000000) (hz : cntTrs l ≤ 1048576) : MFn Tryz.prog 50 false [.sh 2 (l.map dTr)] k0 (k0 + ((cntTrs l : Nat) : Int)) (some [.sh 2 (two2 (nmk (lensII (trL l)) k0))]) := by
  refine ⟨plain_of Tryz.func50 (by kernel_rfl) (by kernel_rfl), litOk_i64.2 (by omega), fun w us bs hv hnd hun => ?_⟩
  obtain ⟨u, rfl, hu⟩ := vrs_one hv
  clear hv
  generalize hxs : l.map dTr = xs at hu
  have hxl : xs.length = l.length := by rw [← hxs]; simp
  have hr : ∀ t ∈ l, t.pre.length ≤ 1048576 ∧ t.post.length ≤ 1048576 := fun t ht => by have := le_cnt ht; omega
  cases hu with
  | shnil q1 q2 =>
    obtain rfl : l = [] := List.length_eq_zero_iff.1 (by rw [← hxl]; rfl)
    rename_i a cap
    show Calls Tryz.prog 50 #[.slice a 0 cap, .int .i64 k0] w _
    clear hnd hun hr
    have hn1 : ([] : List Tr).length < 1 := by decide
    go_enter Tryz.func50, Tryz.ntmps50
    go_wp2
    go_loopw [1, 5] (fun v i wr => v = .int .i64 k0 ∧ i = .int .i64 0 ∧ w = wr) (fun _ _ _ => 0)
    case atStart => exact ⟨rfl, rfl, rfl⟩
    case round =>
      obtain ⟨rfl, rfl, rfl⟩ := hrel
      go_wp2
      go_ret
      refine ⟨ret_int (by simp [cntTrs]), Turn.refl _ _, fun l hl => ?_⟩
      cases hl
      have : VRs w [.sh 2 []] [.slice a 0 cap] [] := by simpa using VRs.cons (VR.shnil (n := 2) q1 q2) .nil
      simpa [lensII, nmk, two2, trL] using this
  | sh q1 q2 q3 q4 q5 q6 =>
    rename_i b o cap us bs
    rw [List.nodup_cons] at hnd
    obtain ⟨hb, hnd⟩ := hnd
    have htl := trL_len l
    have hfx : xs.flatten = markX (trL l) k0 0 := by rw [← hxs, flat_dTr]; simp [markX, lensII, nmk]
    have hul : us.length = 2 * l.length := by rw [q5.len, hfx, markX]; simp [lensII, nmk, htl]
    have HX0 : Hid (VRs w (markX (trL l) k0 0) us bs) := Lib.hid (by rw [← hfx]; exact q5)
    have HND := Lib.hid hnd
    have HUN := Lib.hid hun
    have HB := Lib.hid hb
    have HC := Lib.hid q6
    have HR := Lib.hid hr
    have HTC := Lib.hid (trL_cnt l)
    rw [hxl] at q2 ⊢
    clear q1 q5 q6 hnd hun hb hr hxs hfx
    show Calls Tryz.prog 50 #[.slice (some ⟨b, o, none⟩) l.length cap, .int .i64 k0] w _
    go_enter Tryz.func50, Tryz.ntmps50
    go_wp2
    go_loopw [1, 5] (fun v i wr => ∃ j n : Nat, j ≤ l.length ∧ i = .int .i64 j ∧ v = .int .i64 (k0 + (n : Int)) ∧ n = cntII ((trL l).take (2 * j)) ∧ Hid (VRs wr (markX (trL l) k0 (2 * j)) us bs) ∧ Hid (Turn bs w wr)) (fun _ i _ => l.length - (intOf i).toNat)
    case atStart => exact ⟨0, 0, Nat.zero_le _, rfl, by simp, by simp [cntII], HX0, Lib.hid (Turn.refl _ _)⟩
    case round =>
      obtain ⟨j, n, hj, rfl, rfl, hn, HX, HT⟩ := hrel
      have hn1 := cntII_le (trL l) (2 * j)
      have htc := HTC.out
      have hnb : n ≤ cntTrs l := by omega
      have HN := Lib.hid hn
      clear hn
      by_cases hlt : j < l.length
      · have ha : 2 * j < (trL l).length := by omega
        have hb2 : 2 * j + 1 < (trL l).length := by omega
        have hcn := cntII_next ha
        have hcn2 := cntII_next hb2
        have hc2 := cntII_le (trL l) (2 * j + 1)
        have hc3 := cntII_le (trL l) (2 * j + 1 + 1)
        have hrl := HR.out _ (nth_mem hlt)
        rw [trL_pre hlt] at hcn
        rw [trL_post hlt] at hcn2
        have hnn : n + (nth l j).pre.length ≤ 1048576 := by have := HN.out; omega
        have hx := HX.out
        rw [markX_at ha, trL_pre hlt] at hx
        obtain ⟨u, hu1, ⟨bd, hbd⟩, hcall⟩ := (markIntS_m (nth l j).pre (k0 + (n : Int)) (by omega) (by omega) hrl.1).at_ hx HND.out (fun k hk => HT.out.un_all (HUN.out k (by simp [hk])))
        obtain ⟨pa, pc, rfl⟩ := hbd.slice
        rw [len_ints] at hu1 hcall
        have hu2 : us[2 * j]? = some (.slice pa (nth l j).pre.length pc) := by
          rw [← hu1, nmk_len]; simp [lensII, Nat.min_eq_left (Nat.le_of_lt ha)]
        have hd0 : wr.cell? ⟨b, o + j * 2, none⟩ = some (.slice pa (nth l j).pre.length pc) := by
          rw [cell_of_heap (HT.out.block b q4 HB.out), Nat.mul_comm j 2, HC.out (2 * j) (by omega)]; exact hu2
        have HCALL := Lib.hid hcall
        have HA := Lib.hid ha
        have HB2 := Lib.hid hb2
        have HCN := Lib.hid hcn
        have HCN2 := Lib.hid hcn2
        clear hcall hx hbd hu1 hu2 hn1 hc2 hc3 hcn hcn2 ha hb2 htc
        go_wp2_with fail
        refine HCALL.out.mono ?_
        rintro e w2 ⟨rfl, ht2, hv2⟩
        have hv3 : VRs w2 (markX (trL l) k0 (2 * j + 1)) us bs := by rw [markX_next HA.out, trL_pre hlt, ← HN.out]; exact hv2
        rw [markX_at HB2.out, trL_post hlt] at hv3
        obtain ⟨u, hu1, ⟨bd, hbd⟩, hcall⟩ := (markIntS_m (nth l j).post (k0 + (n : Int) + ((nth l j).pre.length : Int)) (by omega) (by omega) hrl.2).at_ hv3 HND.out (fun k hk => (HT.out.trans ht2).un_all (HUN.out k (by simp [hk])))
        obtain ⟨pa2, pc2, rfl⟩ := hbd.slice
        rw [len_ints] at hu1 hcall
        have hu2 : us[2 * j + 1]? = some (.slice pa2 (nth l j).post.length pc2) := by
          rw [← hu1, nmk_len]; simp [lensII, Nat.min_eq_left (Nat.le_of_lt HB2.out)]
        have hd1 : w2.cell? ⟨b, o + j * 2 + 1, none⟩ = some (.slice pa2 (nth l j).post.length pc2) := by
          rw [cell_of_heap ((HT.out.trans ht2).block b q4 HB.out), Nat.mul_comm j 2, Nat.add_assoc, HC.out (2 * j + 1) (by omega)]; exact hu2
        have HCALL2 := Lib.hid hcall
        have HT2 := Lib.hid (HT.out.trans ht2)
        clear hv2 hv3 ht2 hcall hbd hu1 hu2
        go_wp2_with fail
        refine HCALL2.out.mono ?_
        rintro e w3 ⟨rfl, ht3, hv3⟩
        have HX3 : Hid (VRs w3 (markX (trL l) k0 (2 * (j + 1))) us bs) := Lib.hid (by
          rw [show 2 * (j + 1) = 2 * j + 1 + 1 by omega, markX_next HB2.out, trL_post hlt, HCN.out, ← HN.out, show k0 + ((n + (nth l j).pre.length : Nat) : Int) = k0 + (n : Int) + ((nth l j).pre.length : Int) by omega]
          exact hv3)
        have HT3 := Lib.hid (HT2.out.trans ht3)
        clear hv3 ht3
        go_wp2
        go_roundw
        case rel => exact ⟨j + 1, n + (nth l j).pre.length + (nth l j).post.length, by omega, by go_num, by congr 1; omega, by rw [show 2 * (j + 1) = 2 * j + 1 + 1 by omega, HCN2.out, HCN.out, ← HN.out], HX3, HT3⟩
        case measure => simp [intOf]; omega
      · obtain rfl : j = l.length := by omega
        go_wp2
        go_ret
        refine ⟨ret_int (by rw [HN.out, ← htl, List.take_length, htc]), HT.out.mono fun k hk => List.mem_cons_of_mem _ hk, fun l2 hl2 => ?_⟩
        cases hl2
        have hx := HX.out
        rw [← htl, markX_end] at hx
        obtain ⟨f1, f2, f3⟩ := two2_flat l.length (nmk (lensII (trL l)) k0) (by rw [nmk_len]; simp [lensII, htl])
        have : VR wr (.sh 2 (two2 (nmk (lensII (trL l)) k0))) (.slice (some ⟨b, o, none⟩) (two2 (nmk (lensII (trL l)) k0)).length cap) (b :: bs) := by
          refine .sh f3 (by rw [f2]; exact q2) q3 ?_ (by rw [f1]; exact hx) fun j hj => ?_
          · exact (Array.getElem?_eq_some_iff.1 ((HT.out.block b q4 HB.out).trans (Array.getElem?_eq_getElem q4))).1
          · rw [cell_of_heap (HT.out.block b q4 HB.out)]; exact HC.out j hj
        rw [f2] at this
        simpa using VRs.cons this .nil

theorem two2_row : ∀ {L : List D} {m j : Nat} {a b : D}, L.length = 2 * m → L[2 * j]? = some a → L[2 * j + 1]? = some b → (two2 L)[j]? = some [a, b]
  | [], _, _, _, _, _, h, _ => by simp at h
  | [_], m, _, _, _, h0, _, _ => by simp at h0; omega
  | a :: b :: L, _, 0, _, _, _, h, h' => by simp at h h'; simp [two2, h, h']
  | a :: b :: L, m, j + 1, x, y, h0, h, h' => by
    rw [show 2 * (j + 1) = 2 * j + 1 + 1 by omega] at h
    rw [show 2 * (j + 1) + 1 = 2 * j + 1 + 1 + 1 by omega] at h'
    simp only [List.getElem?_cons_succ] at h h'
    simp only [two2, List.getElem?_cons_succ]
    exact two2_row (m := m - 1) (by simp at h0; omega) h h'

theorem heldTransitionS_f (ns : List Nat) (m : Nat) (hm : ns.length = 2 * m) (k0 : Int) (h0 : 0 ≤ k0) (h1 : k0 + ((ns.sum : Nat) : Int) ≤ 1000000000000) (hr : ∀ n ∈ ns, n ≤ 1048576) (hl : ns.length ≤ 100000000) : Fn Tryz.prog 52 [.sh 2 (two2 (nmk ns k0)), .lit (.int .i64 k0)] (.lit (.int .i64 (k0 + ((ns.sum : Nat) : Int)))) [] := by
  refine Fn_of Tryz.func52 rfl (by kernel_rfl) rfl rfl ?_
  intro w0 A hin
  have hz : (two2 (nmk ns k0)).length = m := (two2_flat m _ (by rw [nmk_len]; exact hm)).2.1
  repeat' (first | refine goZ ?_ | ((first | refine R_cond rfl (fun hq => ?_) fun hq => ?_ | refine R_guardT rfl rfl rfl (fun hq => ?_) fun hq => ?_ | refine R_guardF rfl rfl rfl (fun hq => ?_) fun hq => ?_ | refine D_guardT rfl rfl rfl (fun hq => ?_) fun hq => ?_ | refine D_guardF rfl rfl rfl (fun hq => ?_) fun hq => ?_) <;> (try rw [hq]) <;> first | have hp := of_decide_eq_true hq | have hp := of_decide_eq_false hq | have hp := of_decide_eq_false (not_t hq) | have hp := of_decide_eq_true (not_f hq) | have hp := hq))
  refine W_loop (fun j : Nat => ⟨_, [(0, .sh 2 (two2 (nmk ns k0))), (1, .lit (.int .i64 (k0 + (((ns.take (2 * j)).sum : Nat) : Int)))), (5, .lit (.int .i64 j))], []⟩) (fun j => j ≤ m) (fun j => m - j) 0 (Nat.zero_le _) (by rw [Nat.mul_zero, List.take_zero, List.sum_nil, show k0 + ((0 : Nat) : Int) = k0 by omega]; exact weakZ []) ?_
  intro j hj
  have hs := sumTake_le ns (2 * j)
  have hs1 := sumTake_le ns (2 * j + 1)
  have hs0 := sumTake_le ns (2 * j + 1 + 1)
  have hs2 := fun h => sum_take_nth (ns := ns) (j := 2 * j) h
  have hs3 := fun h => sum_take_nth (ns := ns) (j := 2 * j + 1) h
  have hrow : j < m → RowAt (two2 (nmk ns k0)) (j : Int) [.sh 1 (mrows 1 fInt (nth ns (2 * j)) (k0 + (((ns.take (2 * j)).sum : Nat) : Int))), .sh 1 (mrows 1 fInt (nth ns (2 * j + 1)) (k0 + (((ns.take (2 * j)).sum : Nat) : Int) + ((nth ns (2 * j) * 1 : Nat) : Int)))] := fun h => by
    refine ⟨by omega, ?_⟩
    rw [Int.toNat_natCast]
    refine two2_row (m := m) (by rw [nmk_len]; exact hm) (nmk_nth (by omega)) ?_
    rw [nmk_nth (by omega), hs2 (by omega)]
    congr 3; simp; omega
  have hrn : j < m → nth ns (2 * j) ≤ 1048576 := fun h => hr _ (nth_mem (by omega))
  have hrn2 : j < m → nth ns (2 * j + 1) ≤ 1048576 := fun h => hr _ (nth_mem (by omega))
  have hb : j < m → k0 + (((ns.take (2 * j)).sum : Nat) : Int) + ((nth ns (2 * j) * 1 : Nat) : Int) ≤ 1000000000000 := fun h => by have := hs2 (by omega); omega
  have hb2 : j < m → k0 + (((ns.take (2 * j)).sum : Nat) : Int) + ((nth ns (2 * j) * 1 : Nat) : Int) + ((nth ns (2 * j + 1) * 1 : Nat) : Int) ≤ 1000000000000 := fun h => by have := hs2 (by omega); have := hs3 (by omega); omega
  repeat' (first | refine R_index tabOk rfl rfl rfl rfl rfl (hrow (by omega)) ?_ | refine go1 ?_ | refine R_callZ rfl (heldIntS_f (nth ns (2 * j)) (k0 + (((ns.take (2 * j)).sum : Nat) : Int)) (by omega) (by omega) (hrn (by omega))) rfl rfl rfl ?_ | refine R_callZ rfl (heldIntS_f (nth ns (2 * j + 1)) (k0 + (((ns.take (2 * j)).sum : Nat) : Int) + ((nth ns (2 * j) * 1 : Nat) : Int)) (by omega) (hb (by omega)) (hrn2 (by omega))) rfl rfl rfl ?_ | refine R_callvZ rfl (heldIntS_f (nth ns (2 * j)) (k0 + (((ns.take (2 * j)).sum : Nat) : Int)) (by omega) (by omega) (hrn (by omega))) rfl rfl rfl rfl ?_ | refine R_callvZ rfl (heldIntS_f (nth ns (2 * j + 1)) (k0 + (((ns.take (2 * j)).sum : Nat) : Int) + ((nth ns (2 * j) * 1 : Nat) : Int)) (by omega) (hb (by omega)) (hrn2 (by omega))) rfl rfl rfl rfl ?_ | refine D_callZ rfl (heldIntS_f (nth ns (2 * j)) (k0 + (((ns.take (2 * j)).sum : Nat) : Int)) (by omega) (by omega) (hrn (by omega))) rfl rfl rfl ?_ | refine D_callZ rfl (heldIntS_f (nth ns (2 * j + 1)) (k0 + (((ns.take (2 * j)).sum : Nat) : Int) + ((nth ns (2 * j) * 1 : Nat) : Int)) (by omega) (hb (by omega)) (hrn2 (by omega))) rfl rfl rfl ?_ | ((first | refine R_cond rfl (fun hq => ?_) fun hq => ?_ | refine R_guardT rfl rfl rfl (fun hq => ?_) fun hq => ?_ | refine R_guardF rfl rfl rfl (fun hq => ?_) fun hq => ?_ | refine D_guardT rfl rfl rfl (fun hq => ?_) fun hq => ?_ | refine D_guardF rfl rfl rfl (fun hq => ?_) fun hq => ?_) <;> (try rw [hq]) <;> first | have hp := of_decide_eq_true hq | have hp := of_decide_eq_false hq | have hp := of_decide_eq_false (not_t hq) | have hp := of_decide_eq_true (not_f hq) | have hp := hq))
  · exfalso; omega
  · exfalso; have := hb2 (by omega); omega
  · refine ⟨j + 1, by omega, by omega, ?_⟩
    have e : k0 + (((ns.take (2 * (j + 1))).sum : Nat) : Int) = k0 + (((ns.take (2 * j)).sum : Nat) : Int) + ((nth ns (2 * j) * 1 : Nat) : Int) + ((nth ns (2 * j + 1) * 1 : Nat) : Int) := by
      rw [show 2 * (j + 1) = 2 * j + 1 + 1 by omega, hs3 (by omega), hs2 (by omega)]; omega
    rw [e]
    exact weakZ _
  · exact ret_int' rfl (by rw [List.take_of_length_le (by omega)])

/-- What lies in a net's transitions, marked on from k. -/
def netX (x : NetD) (k : Int) : List (List D) := two2 (nmk (lensII (trL x.trs)) k)

theorem heldNet_f (x : NetD) (p : Int) (hp : -9223372036854775808 ≤ p ∧ p ≤ 9223372036854775807) (k0 : Int) (h0 : 0 ≤ k0) (h1 : k0 ≤ 100000000000) (hz : cntTrs x.trs ≤ 1048576) (hl : x.trs.length ≤ 1000000) : Fn Tryz.prog 25 [.agg [.lit (.int .i64 p), .sh 2 (netX x k0)], .lit (.int .i64 k0)] (.lit (.int .i64 (k0 + ((cntTrs x.trs : Nat) : Int)))) [] := by
  refine Fn_of Tryz.func25 rfl (by kernel_rfl) rfl rfl ?_
  intro w0 A hin
  have e : (lensII (trL x.trs)).sum = cntTrs x.trs := trL_cnt x.trs
  have hH := heldTransitionS_f (lensII (trL x.trs)) x.trs.length (by simp [lensII, trL_len]) k0 h0 (by omega) (fun n hn => by
    simp only [lensII, List.mem_map] at hn
    obtain ⟨r, hr, rfl⟩ := hn
    obtain ⟨t, ht, rfl | rfl⟩ := trL_mem hr <;> have := le_cnt ht <;> omega) (by simp [lensII, trL_len]; omega)
  rw [e] at hH
  repeat' (first | refine goZ ?_ | refine R_callZ rfl (hH) rfl rfl rfl ?_ | refine R_callvZ rfl (hH) rfl rfl rfl rfl ?_ | refine D_callZ rfl (hH) rfl rfl rfl ?_ | ((first | refine R_cond rfl (fun hq => ?_) fun hq => ?_ | refine R_guardT rfl rfl rfl (fun hq => ?_) fun hq => ?_ | refine R_guardF rfl rfl rfl (fun hq => ?_) fun hq => ?_ | refine D_guardT rfl rfl rfl (fun hq => ?_) fun hq => ?_ | refine D_guardF rfl rfl rfl (fun hq => ?_) fun hq => ?_) <;> (try rw [hq]) <;> first | have hp := of_decide_eq_true hq | have hp := of_decide_eq_false hq | have hp := of_decide_eq_false (not_t hq) | have hp := of_decide_eq_true (not_f hq) | have hp := hq))
  all_goals first | (exfalso; omega) | exact ret_int' rfl rfl

theorem markNet_n (x : NetD) (k0 : Int) (h0 : 0 ≤ k0) (h1 : k0 ≤ 1000000000) (hz : cntTrs x.trs ≤ 1048576) (hl : x.trs.length ≤ 1000000) : MFn Tryz.prog 22 true (dNetD x) k0 (k0 + ((cntTrs x.trs : Nat) : Int)) (some [.lit (.int .i64 x.places), .sh 2 (netX x k0)]) := by
  refine ⟨plain_of Tryz.func22 (by kernel_rfl) (by kernel_rfl), litOk_i64.2 (by omega), fun w us bs hv hnd hun => ?_⟩
  have hlen := hv.len
  obtain ⟨u0, u1, rfl⟩ : ∃ u0 u1, us = [u0, u1] := by
    match us, hlen with
    | [u0, u1], _ => exact ⟨u0, u1, rfl⟩
  have hE0 : Ext w (w.alloc (.cells #[u0, u1] 24)) := (Ext.refl w).alloc _
  have hv1 : VRs (w.alloc (.cells #[u0, u1] 24)) (dNetD x) [u0, u1] bs := hv.keep fun k hk => hE0.heap (hv.inb k hk)
  obtain ⟨u, hu1, ⟨bd, hbd⟩, hcall⟩ := (markTransitionS_n x.trs k0 h0 (by omega) hl hz).at_ (ds1 := [.lit (.int .i64 x.places)]) (ds2 := []) hv1 hnd fun k hk => (hun k hk).ext hE0
  simp only [List.length_cons, List.length_nil, Nat.zero_add, List.getElem?_cons_succ, List.getElem?_cons_zero, Option.some.injEq] at hu1
  subst hu1
  have HCALL := Lib.hid hcall
  have HE := Lib.hid hE0
  have HI := Lib.hid hv.inb
  clear hcall hbd hnd hun hv hv1 hE0
  show Calls Tryz.prog 22 #[.agg #[u0, u1], .int .i64 k0] w _
  go_enter Tryz.func22, Tryz.ntmps22
  go_wp2_with fail
  refine HCALL.out.mono ?_
  rintro e w1 ⟨rfl, ht, hv2⟩
  have HT := Lib.hid ht
  have HV2 := Lib.hid hv2
  clear ht hv2
  go_wp2
  go_ret
  refine ⟨ret_int (by omega), (Turn.of_ext HE.out).trans HT.out, fun l hl => ?_⟩
  cases hl
  exact HV2.out
end Go.Proofs.YtcpjhpjlcgcigaaGreatDoor
namespace Go.Proofs.YtcpjhpjlcgcigaaGreatDoor
open Go.ChangeShapes Go.WideShapes Go.ChangeAt Go.RowKit

theorem mrows_at {m : Nat} {fv : Nat → Int → Value} : ∀ {n j : Nat} {k : Int}, j < n → (mrows m fv n k)[j]? = some ((mrow m fv (k + ((j * m : Nat) : Int))).map D.lit)
  | 0, _, _, h => by omega
  | n + 1, 0, k, _ => by simp [mrows]
  | n + 1, j + 1, k, h => by
    rw [mrows, List.getElem?_cons_succ, mrows_at (by omega), show k + (m : Int) + ((j * m : Nat) : Int) = k + (((j + 1) * m : Nat) : Int) by rw [Nat.add_mul]; omega]
theorem sig_row {n j : Nat} {k : Int} (h : j < n) : RowAt (mrows 2 fSig n k) (j : Int) [.lit (.string (markStr (k + 2 * j))), .lit (.int .i64 (k + 2 * j + 1))] := by
  refine ⟨by omega, ?_⟩
  rw [Int.toNat_natCast, mrows_at h]
  have e : k + ((j * 2 : Nat) : Int) = k + 2 * j := by omega
  rw [e]
  simp [mrow, List.range_succ, fSig]

theorem markText_f (k : Int) (h0 : 0 ≤ k) (h1 : k ≤ 2199023255552) : Fn Tryz.prog 51 [.lit (.int .i64 k)] (.lit (.string (markStr k))) [] := by
  refine Fn.of_lit (by have := markStr_size k; simp only [litOk]; omega) (plain_of Tryz.func51 (by kernel_rfl) (by kernel_rfl)) fun w us h => ?_
  obtain ⟨u, rfl, h2⟩ := vxs_one h
  obtain ⟨rfl, _⟩ := h2.lit_inv
  exact markText_c w k h0 h1

theorem heldSignalS_f (n : Nat) (k0 : Int) (h0 : 0 ≤ k0) (h1 : k0 ≤ 1000000000000) (hl : n ≤ 1048576) : Fn Tryz.prog 26 [.sh 2 (mrows 2 fSig n k0), .lit (.int .i64 k0)] (.lit (.int .i64 (k0 + ((n * 2 : Nat) : Int)))) [] := by
  refine Fn_of Tryz.func26 rfl (by kernel_rfl) rfl rfl ?_
  intro w0 A hin
  have hz : (mrows 2 fSig n k0).length = n := mrows_len
  repeat' (first | refine goZ ?_ | ((first | refine R_cond rfl (fun hq => ?_) fun hq => ?_ | refine R_guardT rfl rfl rfl (fun hq => ?_) fun hq => ?_ | refine R_guardF rfl rfl rfl (fun hq => ?_) fun hq => ?_ | refine D_guardT rfl rfl rfl (fun hq => ?_) fun hq => ?_ | refine D_guardF rfl rfl rfl (fun hq => ?_) fun hq => ?_) <;> (try rw [hq]) <;> first | have hp := of_decide_eq_true hq | have hp := of_decide_eq_false hq | have hp := of_decide_eq_false (not_t hq) | have hp := of_decide_eq_true (not_f hq) | have hp := hq))
  refine W_loop (fun j : Nat => ⟨_, [(0, .sh 2 (mrows 2 fSig n k0)), (1, .lit (.int .i64 (k0 + 2 * j))), (5, .lit (.int .i64 j))], []⟩) (fun j => j ≤ n) (fun j => n - j) 0 (Nat.zero_le _) (by rw [show k0 + 2 * ((0 : Nat) : Int) = k0 by omega]; exact weakZ []) ?_
  intro j hj
  have hrow := fun h => sig_row (n := n) (j := j) (k := k0) h
  have hT := fun h => markText_f (k0 + 2 * (j : Int)) (by omega) h
  repeat' (first | refine R_index tabOk rfl rfl rfl rfl rfl (hrow (by omega)) ?_ | refine go1 ?_ | refine R_callZ rfl (hT (by omega)) rfl rfl rfl ?_ | refine R_callvZ rfl (hT (by omega)) rfl rfl rfl rfl ?_ | refine D_index rfl rfl rfl rfl rfl (hrow (by omega)) ?_ | refine D_callZ rfl (hT (by omega)) rfl rfl rfl ?_ | ((first | refine R_cond rfl (fun hq => ?_) fun hq => ?_ | refine R_guardT rfl rfl rfl (fun hq => ?_) fun hq => ?_ | refine R_guardF rfl rfl rfl (fun hq => ?_) fun hq => ?_ | refine D_guardT rfl rfl rfl (fun hq => ?_) fun hq => ?_ | refine D_guardF rfl rfl rfl (fun hq => ?_) fun hq => ?_) <;> (try rw [hq]) <;> first | have hp := of_decide_eq_true hq | have hp := of_decide_eq_false hq | have hp := of_decide_eq_false (not_t hq) | have hp := of_decide_eq_true (not_f hq) | have hp := hq))
  · exact absurd rfl hp
  · exact absurd rfl hp
  · refine ⟨j + 1, by omega, by omega, ?_⟩
    rw [show k0 + 2 * ((j + 1 : Nat) : Int) = k0 + 2 * j + 1 + 1 by omega]
    exact weakZ _
  · exact ret_int' rfl (by omega)

/-- What lies in a graph that was marked. -/
def stgX (x : Stg) (p : Int) (st : ByteArray) (k : Int) : List D := [.lit (.int .i64 p), .sh 2 (netX x.net k), .sh 2 (mrows 2 fSig x.signals.length (k + ((cntTrs x.net.trs : Nat) : Int))), .sh 2 (mrows 2 fLab x.labels.length (k + ((cntTrs x.net.trs : Nat) : Int) + ((x.signals.length * 2 : Nat) : Int))), .lit (.string st)]
structure StgSm (x : Stg) : Prop where
  cnt : cntTrs x.net.trs ≤ 1048576
  trs : x.net.trs.length ≤ 1000000
  sigs : x.signals.length ≤ 1048576
  labs : x.labels.length ≤ 1048576

theorem heldSTG_f (x : Stg) (hx : StgSm x) (p : Int) (hp : -9223372036854775808 ≤ p ∧ p ≤ 9223372036854775807) (st : ByteArray) (k0 : Int) (h0 : 0 ≤ k0) (h1 : k0 ≤ 100000000000) : Fn Tryz.prog 8 [.agg (stgX x p st k0), .lit (.int .i64 k0)] (.lit (.int .i64 (k0 + ((cntTrs x.net.trs : Nat) : Int) + ((x.signals.length * 2 : Nat) : Int) + ((x.labels.length * 2 : Nat) : Int)))) [] := by
  refine Fn_of Tryz.func8 rfl (by kernel_rfl) rfl rfl ?_
  intro w0 A hin
  obtain ⟨a1, a2, a3, a4⟩ := hx
  repeat' (first | refine goZ ?_ | refine R_callZ rfl (heldNet_f x.net p hp k0 h0 h1 a1 a2) rfl rfl rfl ?_ | refine R_callZ rfl (heldSignalS_f x.signals.length _ (by omega) (by omega) a3) rfl rfl rfl ?_ | refine R_callZ rfl (heldLabelS_f x.labels.length _ (by omega) (by omega) a4) rfl rfl rfl ?_ | refine R_callvZ rfl (heldNet_f x.net p hp k0 h0 h1 a1 a2) rfl rfl rfl rfl ?_ | refine R_callvZ rfl (heldSignalS_f x.signals.length _ (by omega) (by omega) a3) rfl rfl rfl rfl ?_ | refine R_callvZ rfl (heldLabelS_f x.labels.length _ (by omega) (by omega) a4) rfl rfl rfl rfl ?_ | refine D_callZ rfl (heldNet_f x.net p hp k0 h0 h1 a1 a2) rfl rfl rfl ?_ | refine D_callZ rfl (heldSignalS_f x.signals.length _ (by omega) (by omega) a3) rfl rfl rfl ?_ | refine D_callZ rfl (heldLabelS_f x.labels.length _ (by omega) (by omega) a4) rfl rfl rfl ?_ | ((first | refine R_cond rfl (fun hq => ?_) fun hq => ?_ | refine R_guardT rfl rfl rfl (fun hq => ?_) fun hq => ?_ | refine R_guardF rfl rfl rfl (fun hq => ?_) fun hq => ?_ | refine D_guardT rfl rfl rfl (fun hq => ?_) fun hq => ?_ | refine D_guardF rfl rfl rfl (fun hq => ?_) fun hq => ?_) <;> (try rw [hq]) <;> first | have hp := of_decide_eq_true hq | have hp := of_decide_eq_false hq | have hp := of_decide_eq_false (not_t hq) | have hp := of_decide_eq_true (not_f hq) | have hp := hq))
  all_goals first | (exfalso; omega) | exact ret_int' rfl rfl

theorem MFn.nextV {P : Program} {fid : FuncId} {agg : Bool} {ds l : List D} {k v : Int} (h : MFn P fid agg ds k v (some l)) {w w1 : World} {us : List Value} {bt bs : List Nat} (ht : Turn bt w w1) (hv : VRs w ds us bs) (hnd : bs.Nodup) (hun : ∀ k ∈ bs, Un w k) (hdis : ∀ k ∈ bs, k ∉ bt) :
    Calls P fid #[pack agg us, .int .i64 k] w1 fun e w' => e = .returned (.int .i64 v) ∧ Turn bs w1 w' ∧ Turn (bt ++ bs) w w' ∧ VRs w' l us bs :=
  (h.calls w1 us bs (hv.keep fun k hk => ht.block k (hv.inb k hk) (hdis k hk)) hnd fun k hk => ht.un_all (hun k hk)).mono fun e w' ⟨h1, h2, h3⟩ =>
    ⟨h1, h2, (ht.mono fun k hk => List.mem_append_left _ hk).trans (h2.mono fun k hk => List.mem_append_right _ hk), h3 _ rfl⟩

set_option maxHeartbeats 1600000 in
theorem markSTG_n (x : Stg) (hx : StgSm x) (k0 : Int) (h0 : 0 ≤ k0) (h1 : k0 ≤ 1000000000) : MFn Tryz.prog 7 true (dStg x) k0 (k0 + ((cntTrs x.net.trs : Nat) : Int) + ((x.signals.length * 2 : Nat) : Int) + ((x.labels.length * 2 : Nat) : Int)) (some (stgX x x.net.places x.start k0)) := by
  obtain ⟨a1, a2, a3, a4⟩ := hx
  refine ⟨(plain_of Tryz.func7 (by kernel_rfl) (by kernel_rfl)), litOk_i64.2 (by omega), fun w us bs hv hnd hun => ?_⟩
  obtain ⟨u0, us0, b0, bs0, rfl, rfl, v0, t0⟩ := vrs_cons hv
  obtain ⟨u1, us1, b1, bs1, rfl, rfl, v1, t1⟩ := vrs_cons t0
  obtain ⟨u2, us2, b2, bs2, rfl, rfl, v2, t2⟩ := vrs_cons t1
  obtain ⟨u3, us3, b3, bs3, rfl, rfl, v3, t3⟩ := vrs_cons t2
  obtain ⟨u4, us4, b4, bs4, rfl, rfl, v4, t4⟩ := vrs_cons t3
  obtain ⟨rfl, rfl⟩ := vrs_nil t4
  have HV := Lib.hid hv
  have HND := Lib.hid hnd
  have HUN := Lib.hid hun
  clear hnd hun hv t0 t1 t2 t3 t4
  have HIN : Hid (∀ k ∈ b0 ++ (b1 ++ (b2 ++ (b3 ++ (b4 ++ [])))), k < w.heap.size) := Lib.hid HV.out.inb
  show Calls Tryz.prog 7 #[.agg #[u0, u1, u2, u3, u4], .int .i64 k0] w _
  have hE0 : Ext w (w.alloc (.cells #[u0, u1, u2, u3, u4] 28)) := (Ext.refl w).alloc _
  have HE0 := Lib.hid hE0
  have V0 := Lib.hid v0
  have V1 := Lib.hid v1
  have V2 := Lib.hid v2
  have V3 := Lib.hid v3
  have V4 := Lib.hid v4
  clear v0 v1 v2 v3 v4
  go_enter Tryz.func7, Tryz.ntmps7
  go_wp2_with fail
  have hsub0 : List.Sublist (b0 ++ (b1 ++ ([]))) (b0 ++ (b1 ++ (b2 ++ (b3 ++ (b4 ++ []))))) := ((List.Sublist.refl _).append ((List.Sublist.refl _).append (List.nil_sublist _)))
  refine (MFn.nextV (markNet_n x.net _ (by omega) (by omega) a1 a2) (bs := (b0 ++ (b1 ++ ([])))) (us := [u0, u1]) ((Turn.of_ext hE0 : Turn [] w _)) (.cons V0.out (.cons V1.out (.nil))) (HND.out.sublist hsub0) (fun k hk => HUN.out k (hsub0.subset hk)) (by intro k hk hk2; simp at hk2)).mono ?_
  rintro e w1 ⟨rfl, ht1, hT1, hW1⟩
  have HT1 := Lib.hid hT1
  have HW1 := Lib.hid hW1
  have hb1_2 : w1.cell? ⟨w.heap.size, 2, none⟩ = some u2 := by rw [cell_of_heap (ht1.block _ (by simp) (fun hm => absurd (HIN.out _ (hsub0.subset hm)) (Nat.lt_irrefl _)))]; exact World.cell?_alloc_new _ _ _ _
  have hb1_3 : w1.cell? ⟨w.heap.size, 3, none⟩ = some u3 := by rw [cell_of_heap (ht1.block _ (by simp) (fun hm => absurd (HIN.out _ (hsub0.subset hm)) (Nat.lt_irrefl _)))]; exact World.cell?_alloc_new _ _ _ _
  clear ht1 hT1 hW1
  go_wp2_with fail
  have hsub1 : List.Sublist b2 (b0 ++ (b1 ++ (b2 ++ (b3 ++ (b4 ++ []))))) := (((List.sublist_append_left _ _).trans (List.sublist_append_right _ _)).trans (List.sublist_append_right _ _))
  refine (MFn.nextV (markSignalS_m x.signals _ (by omega) (by omega) (by omega)) (bs := b2) (us := [u2]) HT1.out (by simpa using VRs.cons V2.out .nil) (HND.out.sublist hsub1) (fun k hk => HUN.out k (hsub1.subset hk)) (by have := HND.out; simp only [List.append_nil, List.nodup_append, List.mem_append, ne_eq] at this; intro k hk hk2; simp only [List.append_nil, List.nil_append, List.mem_append] at hk hk2; grind)).mono ?_
  rintro e w2 ⟨rfl, ht2, hT2, hW2⟩
  have HT2 := Lib.hid hT2
  have HW2 := Lib.hid hW2
  have HL2 := Lib.hid ht2
  have hb2_3 : w2.cell? ⟨w.heap.size, 3, none⟩ = some u3 := by rw [cell_of_heap (ht2.block _ (lt_of_cell hb1_3) (fun hm => absurd (HIN.out _ (hsub1.subset hm)) (Nat.lt_irrefl _)))]; exact hb1_3
  clear ht2 hT2 hW2
  go_wp2_with fail
  have hsub2 : List.Sublist b3 (b0 ++ (b1 ++ (b2 ++ (b3 ++ (b4 ++ []))))) := ((((List.sublist_append_left _ _).trans (List.sublist_append_right _ _)).trans (List.sublist_append_right _ _)).trans (List.sublist_append_right _ _))
  refine (MFn.nextV (markLabelS_m x.labels _ (by omega) (by omega) (by omega)) (bs := b3) (us := [u3]) HT2.out (by simpa using VRs.cons V3.out .nil) (HND.out.sublist hsub2) (fun k hk => HUN.out k (hsub2.subset hk)) (by have := HND.out; simp only [List.append_nil, List.nodup_append, List.mem_append, ne_eq] at this; intro k hk hk2; simp only [List.append_nil, List.nil_append, List.mem_append] at hk hk2; grind)).mono ?_
  rintro e w3 ⟨rfl, ht3, hT3, hW3⟩
  have HT3 := Lib.hid hT3
  have HW3 := Lib.hid hW3
  have HL3 := Lib.hid ht3
  clear ht3 hT3 hW3
  go_wp2
  go_ret
  refine ⟨ret_int (by omega), HT3.out.mono (fun k hk => by simp only [List.append_nil, List.nil_append, List.mem_append] at hk ⊢; grind), fun l hl => ?_⟩
  cases hl
  have hnd := HND.out
  simp only [List.append_nil, List.nodup_append, List.mem_append, ne_eq] at hnd
  have k1 : VRs w3 [.lit (.int .i64 x.net.places), .sh 2 (netX x.net k0)] [u0, u1] (b0 ++ (b1 ++ [])) := by
    have i1 := HW1.out
    have i2 := i1.keep fun k hk => HL2.out.block k (i1.inb k hk) (by simp only [List.append_nil, List.mem_append] at hk; intro hm; grind)
    exact i2.keep fun k hk => HL3.out.block k (i2.inb k hk) (by simp only [List.append_nil, List.mem_append] at hk; intro hm; grind)
  have k2 : VRs w3 [.sh 2 (mrows 2 fSig x.signals.length (k0 + ((cntTrs x.net.trs : Nat) : Int)))] [u2] b2 := by
    have i1 := HW2.out
    exact i1.keep fun k hk => HL3.out.block k (i1.inb k hk) (by intro hm; grind)
  have k4 : VR w3 (.lit (.string x.start)) u4 b4 := by
    have i0 := V4.out
    cases i0 with
    | lit i1 => exact .lit i1
  have := k1.append (k2.append (HW3.out.append (VRs.cons k4 .nil)))
  simpa [stgX] using this
end Go.Proofs.YtcpjhpjlcgcigaaGreatDoor
