/- The laws' helpers mark and held over graphs: what lies there then. No condition. -/
import Derived.Test.YtcbfpeplcbgpjaaMarkNet
set_option linter.unusedSimpArgs false
set_option linter.unusedVariables false
set_option maxHeartbeats 2000000
namespace Go.Proofs.Ytcbfpeplcbgpjaa
open Go.ChangeShapes Go.WideShapes Go.ChangeAt Go.RowKit

theorem mrows_at {m : Nat} {fv : Nat → Int → Value} : ∀ {n j : Nat} {k : Int}, j < n → (mrows m fv n k)[j]? = some ((mrow m fv (k + ((j * m : Nat) : Int))).map D.lit)
  | 0, _, _, h => by omega
  | n + 1, 0, k, _ => by simp [mrows]
  | n + 1, j + 1, k, h => by
    rw [mrows, List.getElem?_cons_succ, mrows_at (by omega), show k + (m : Int) + ((j * m : Nat) : Int) = k + (((j + 1) * m : Nat) : Int) by rw [Nat.add_mul]; omega]
theorem sig_row {n j : Nat} {k : Int} (h : j < n) : RowAt (mrows 2 fSig n k) (j : Int) [.lit (.string (markStr (k + 2 * j))), .lit (.int .i64 (k + 2 * j + 1))] := by
  refine ⟨by omega, ?_⟩
  rw [Int.toNat_natCast, mrows_at h]
  have e : k + ((j * 2 : Nat) : Int) = k + 2 * j := by omega
  rw [e]
  simp [mrow, List.range_succ, fSig]

theorem markText_f (k : Int) (h0 : 0 ≤ k) (h1 : k ≤ 2199023255552) : Fn Try.prog 143 [.lit (.int .i64 k)] (.lit (.string (markStr k))) [] := by
  refine Fn.of_lit (by have := markStr_size k; simp only [litOk]; omega) (plain_of Try.func143 (by kernel_rfl) (by kernel_rfl)) fun w us h => ?_
  obtain ⟨u, rfl, h2⟩ := vxs_one h
  obtain ⟨rfl, _⟩ := h2.lit_inv
  exact markText_c w k h0 h1

theorem heldSignalS_f (n : Nat) (k0 : Int) (h0 : 0 ≤ k0) (h1 : k0 ≤ 1000000000000) (hl : n ≤ 1048576) : Fn Try.prog 95 [.sh 2 (mrows 2 fSig n k0), .lit (.int .i64 k0)] (.lit (.int .i64 (k0 + ((n * 2 : Nat) : Int)))) [] := by
  refine Fn_of Try.func95 rfl (by kernel_rfl) rfl rfl ?_
  intro w0 A hin
  have hz : (mrows 2 fSig n k0).length = n := mrows_len
  repeat' (first | refine goZ ?_ | ((first | refine R_cond rfl (fun hq => ?_) fun hq => ?_ | refine R_guardT rfl rfl rfl (fun hq => ?_) fun hq => ?_ | refine R_guardF rfl rfl rfl (fun hq => ?_) fun hq => ?_ | refine D_guardT rfl rfl rfl (fun hq => ?_) fun hq => ?_ | refine D_guardF rfl rfl rfl (fun hq => ?_) fun hq => ?_) <;> (try rw [hq]) <;> first | have hp := of_decide_eq_true hq | have hp := of_decide_eq_false hq | have hp := of_decide_eq_false (not_t hq) | have hp := of_decide_eq_true (not_f hq) | have hp := hq))
  refine W_loop (fun j : Nat => ⟨_, [(0, .sh 2 (mrows 2 fSig n k0)), (1, .lit (.int .i64 (k0 + 2 * j))), (5, .lit (.int .i64 j))], []⟩) (fun j => j ≤ n) (fun j => n - j) 0 (Nat.zero_le _) (by rw [show k0 + 2 * ((0 : Nat) : Int) = k0 by omega]; exact weakZ []) ?_
  intro j hj
  have hrow := fun h => sig_row (n := n) (j := j) (k := k0) h
  have hT := fun h => markText_f (k0 + 2 * (j : Int)) (by omega) h
  repeat' (first | refine R_index tabOk rfl rfl rfl rfl rfl (hrow (by omega)) ?_ | refine go1 ?_ | refine R_callZ rfl (hT (by omega)) rfl rfl rfl ?_ | refine R_callvZ rfl (hT (by omega)) rfl rfl rfl rfl ?_ | refine D_index rfl rfl rfl rfl rfl (hrow (by omega)) ?_ | refine D_callZ rfl (hT (by omega)) rfl rfl rfl ?_ | ((first | refine R_cond rfl (fun hq => ?_) fun hq => ?_ | refine R_guardT rfl rfl rfl (fun hq => ?_) fun hq => ?_ | refine R_guardF rfl rfl rfl (fun hq => ?_) fun hq => ?_ | refine D_guardT rfl rfl rfl (fun hq => ?_) fun hq => ?_ | refine D_guardF rfl rfl rfl (fun hq => ?_) fun hq => ?_) <;> (try rw [hq]) <;> first | have hp := of_decide_eq_true hq | have hp := of_decide_eq_false hq | have hp := of_decide_eq_false (not_t hq) | have hp := of_decide_eq_true (not_f hq) | have hp := hq))
  · exact absurd rfl hp
  · exact absurd rfl hp
  · refine ⟨j + 1, by omega, by omega, ?_⟩
    rw [show k0 + 2 * ((j + 1 : Nat) : Int) = k0 + 2 * j + 1 + 1 by omega]
    exact weakZ _
  · exact ret_int' rfl (by omega)

/-- What lies in a graph that was marked. -/
def stgX (x : Stg) (p : Int) (st : ByteArray) (k : Int) : List D := [.lit (.int .i64 p), .sh 2 (netX x.net k), .sh 2 (mrows 2 fSig x.signals.length (k + ((cntTrs x.net.trs : Nat) : Int))), .sh 2 (mrows 2 fLab x.labels.length (k + ((cntTrs x.net.trs : Nat) : Int) + ((x.signals.length * 2 : Nat) : Int))), .lit (.string st)]
structure StgSm (x : Stg) : Prop where
  cnt : cntTrs x.net.trs ≤ 1048576
  trs : x.net.trs.length ≤ 1000000
  sigs : x.signals.length ≤ 1048576
  labs : x.labels.length ≤ 1048576

theorem heldSTG_f (x : Stg) (hx : StgSm x) (p : Int) (hp : -9223372036854775808 ≤ p ∧ p ≤ 9223372036854775807) (st : ByteArray) (k0 : Int) (h0 : 0 ≤ k0) (h1 : k0 ≤ 100000000000) : Fn Try.prog 35 [.agg (stgX x p st k0), .lit (.int .i64 k0)] (.lit (.int .i64 (k0 + ((cntTrs x.net.trs : Nat) : Int) + ((x.signals.length * 2 : Nat) : Int) + ((x.labels.length * 2 : Nat) : Int)))) [] := by
  refine Fn_of Try.func35 rfl (by kernel_rfl) rfl rfl ?_
  intro w0 A hin
  obtain ⟨a1, a2, a3, a4⟩ := hx
  repeat' (first | refine goZ ?_ | refine R_callZ rfl (heldNet_f x.net p hp k0 h0 h1 a1 a2) rfl rfl rfl ?_ | refine R_callZ rfl (heldSignalS_f x.signals.length _ (by omega) (by omega) a3) rfl rfl rfl ?_ | refine R_callZ rfl (heldLabelS_f x.labels.length _ (by omega) (by omega) a4) rfl rfl rfl ?_ | refine R_callvZ rfl (heldNet_f x.net p hp k0 h0 h1 a1 a2) rfl rfl rfl rfl ?_ | refine R_callvZ rfl (heldSignalS_f x.signals.length _ (by omega) (by omega) a3) rfl rfl rfl rfl ?_ | refine R_callvZ rfl (heldLabelS_f x.labels.length _ (by omega) (by omega) a4) rfl rfl rfl rfl ?_ | refine D_callZ rfl (heldNet_f x.net p hp k0 h0 h1 a1 a2) rfl rfl rfl ?_ | refine D_callZ rfl (heldSignalS_f x.signals.length _ (by omega) (by omega) a3) rfl rfl rfl ?_ | refine D_callZ rfl (heldLabelS_f x.labels.length _ (by omega) (by omega) a4) rfl rfl rfl ?_ | ((first | refine R_cond rfl (fun hq => ?_) fun hq => ?_ | refine R_guardT rfl rfl rfl (fun hq => ?_) fun hq => ?_ | refine R_guardF rfl rfl rfl (fun hq => ?_) fun hq => ?_ | refine D_guardT rfl rfl rfl (fun hq => ?_) fun hq => ?_ | refine D_guardF rfl rfl rfl (fun hq => ?_) fun hq => ?_) <;> (try rw [hq]) <;> first | have hp := of_decide_eq_true hq | have hp := of_decide_eq_false hq | have hp := of_decide_eq_false (not_t hq) | have hp := of_decide_eq_true (not_f hq) | have hp := hq))
  all_goals first | (exfalso; omega) | exact ret_int' rfl rfl

theorem MFn.nextV {P : Program} {fid : FuncId} {agg : Bool} {ds l : List D} {k v : Int} (h : MFn P fid agg ds k v (some l)) {w w1 : World} {us : List Value} {bt bs : List Nat} (ht : Turn bt w w1) (hv : VRs w ds us bs) (hnd : bs.Nodup) (hun : ∀ k ∈ bs, Un w k) (hdis : ∀ k ∈ bs, k ∉ bt) :
    Calls P fid #[pack agg us, .int .i64 k] w1 fun e w' => e = .returned (.int .i64 v) ∧ Turn bs w1 w' ∧ Turn (bt ++ bs) w w' ∧ VRs w' l us bs :=
  (h.calls w1 us bs (hv.keep fun k hk => ht.block k (hv.inb k hk) (hdis k hk)) hnd fun k hk => ht.un_all (hun k hk)).mono fun e w' ⟨h1, h2, h3⟩ =>
    ⟨h1, h2, (ht.mono fun k hk => List.mem_append_left _ hk).trans (h2.mono fun k hk => List.mem_append_right _ hk), h3 _ rfl⟩

set_option maxHeartbeats 1600000 in
theorem markSTG_n (x : Stg) (hx : StgSm x) (k0 : Int) (h0 : 0 ≤ k0) (h1 : k0 ≤ 1000000000) : MFn Try.prog 34 true (dStg x) k0 (k0 + ((cntTrs x.net.trs : Nat) : Int) + ((x.signals.length * 2 : Nat) : Int) + ((x.labels.length * 2 : Nat) : Int)) (some (stgX x x.net.places x.start k0)) := by
  obtain ⟨a1, a2, a3, a4⟩ := hx
  refine ⟨(plain_of Try.func34 (by kernel_rfl) (by kernel_rfl)), litOk_i64.2 (by omega), fun w us bs hv hnd hun => ?_⟩
  obtain ⟨u0, us0, b0, bs0, rfl, rfl, v0, t0⟩ := vrs_cons hv
  obtain ⟨u1, us1, b1, bs1, rfl, rfl, v1, t1⟩ := vrs_cons t0
  obtain ⟨u2, us2, b2, bs2, rfl, rfl, v2, t2⟩ := vrs_cons t1
  obtain ⟨u3, us3, b3, bs3, rfl, rfl, v3, t3⟩ := vrs_cons t2
  obtain ⟨u4, us4, b4, bs4, rfl, rfl, v4, t4⟩ := vrs_cons t3
  obtain ⟨rfl, rfl⟩ := vrs_nil t4
  have HV := Lib.hid hv
  have HND := Lib.hid hnd
  have HUN := Lib.hid hun
  clear hnd hun hv t0 t1 t2 t3 t4
  have HIN : Hid (∀ k ∈ b0 ++ (b1 ++ (b2 ++ (b3 ++ (b4 ++ [])))), k < w.heap.size) := Lib.hid HV.out.inb
  show Calls Try.prog 34 #[.agg #[u0, u1, u2, u3, u4], .int .i64 k0] w _
  have hE0 : Ext w (w.alloc (.cells #[u0, u1, u2, u3, u4] 69)) := (Ext.refl w).alloc _
  have HE0 := Lib.hid hE0
  have V0 := Lib.hid v0
  have V1 := Lib.hid v1
  have V2 := Lib.hid v2
  have V3 := Lib.hid v3
  have V4 := Lib.hid v4
  clear v0 v1 v2 v3 v4
  go_enter Try.func34, Try.ntmps34
  go_wp2_with fail
  have hsub0 : List.Sublist (b0 ++ (b1 ++ ([]))) (b0 ++ (b1 ++ (b2 ++ (b3 ++ (b4 ++ []))))) := ((List.Sublist.refl _).append ((List.Sublist.refl _).append (List.nil_sublist _)))
  refine (MFn.nextV (markNet_n x.net _ (by omega) (by omega) a1 a2) (bs := (b0 ++ (b1 ++ ([])))) (us := [u0, u1]) ((Turn.of_ext hE0 : Turn [] w _)) (.cons V0.out (.cons V1.out (.nil))) (HND.out.sublist hsub0) (fun k hk => HUN.out k (hsub0.subset hk)) (by intro k hk hk2; simp at hk2)).mono ?_
  rintro e w1 ⟨rfl, ht1, hT1, hW1⟩
  have HT1 := Lib.hid hT1
  have HW1 := Lib.hid hW1
  have hb1_2 : w1.cell? ⟨w.heap.size, 2, none⟩ = some u2 := by rw [cell_of_heap (ht1.block _ (by simp) (fun hm => absurd (HIN.out _ (hsub0.subset hm)) (Nat.lt_irrefl _)))]; exact World.cell?_alloc_new _ _ _ _
  have hb1_3 : w1.cell? ⟨w.heap.size, 3, none⟩ = some u3 := by rw [cell_of_heap (ht1.block _ (by simp) (fun hm => absurd (HIN.out _ (hsub0.subset hm)) (Nat.lt_irrefl _)))]; exact World.cell?_alloc_new _ _ _ _
  clear ht1 hT1 hW1
  go_wp2_with fail
  have hsub1 : List.Sublist b2 (b0 ++ (b1 ++ (b2 ++ (b3 ++ (b4 ++ []))))) := (((List.sublist_append_left _ _).trans (List.sublist_append_right _ _)).trans (List.sublist_append_right _ _))
  refine (MFn.nextV (markSignalS_m x.signals _ (by omega) (by omega) (by omega)) (bs := b2) (us := [u2]) HT1.out (by simpa using VRs.cons V2.out .nil) (HND.out.sublist hsub1) (fun k hk => HUN.out k (hsub1.subset hk)) (by have := HND.out; simp only [List.append_nil, List.nodup_append, List.mem_append, ne_eq] at this; intro k hk hk2; simp only [List.append_nil, List.nil_append, List.mem_append] at hk hk2; grind)).mono ?_
  rintro e w2 ⟨rfl, ht2, hT2, hW2⟩
  have HT2 := Lib.hid hT2
  have HW2 := Lib.hid hW2
  have HL2 := Lib.hid ht2
  have hb2_3 : w2.cell? ⟨w.heap.size, 3, none⟩ = some u3 := by rw [cell_of_heap (ht2.block _ (lt_of_cell hb1_3) (fun hm => absurd (HIN.out _ (hsub1.subset hm)) (Nat.lt_irrefl _)))]; exact hb1_3
  clear ht2 hT2 hW2
  go_wp2_with fail
  have hsub2 : List.Sublist b3 (b0 ++ (b1 ++ (b2 ++ (b3 ++ (b4 ++ []))))) := ((((List.sublist_append_left _ _).trans (List.sublist_append_right _ _)).trans (List.sublist_append_right _ _)).trans (List.sublist_append_right _ _))
  refine (MFn.nextV (markLabelS_m x.labels _ (by omega) (by omega) (by omega)) (bs := b3) (us := [u3]) HT2.out (by simpa using VRs.cons V3.out .nil) (HND.out.sublist hsub2) (fun k hk => HUN.out k (hsub2.subset hk)) (by have := HND.out; simp only [List.append_nil, List.nodup_append, List.mem_append, ne_eq] at this; intro k hk hk2; simp only [List.append_nil, List.nil_append, List.mem_append] at hk hk2; grind)).mono ?_
  rintro e w3 ⟨rfl, ht3, hT3, hW3⟩
  have HT3 := Lib.hid hT3
  have HW3 := Lib.hid hW3
  have HL3 := Lib.hid ht3
  clear ht3 hT3 hW3
  go_wp2
  go_ret
  refine ⟨ret_int (by omega), HT3.out.mono (fun k hk => by simp only [List.append_nil, List.nil_append, List.mem_append] at hk ⊢; grind), fun l hl => ?_⟩
  cases hl
  have hnd := HND.out
  simp only [List.append_nil, List.nodup_append, List.mem_append, ne_eq] at hnd
  have k1 : VRs w3 [.lit (.int .i64 x.net.places), .sh 2 (netX x.net k0)] [u0, u1] (b0 ++ (b1 ++ [])) := by
    have i1 := HW1.out
    have i2 := i1.keep fun k hk => HL2.out.block k (i1.inb k hk) (by simp only [List.append_nil, List.mem_append] at hk; intro hm; grind)
    exact i2.keep fun k hk => HL3.out.block k (i2.inb k hk) (by simp only [List.append_nil, List.mem_append] at hk; intro hm; grind)
  have k2 : VRs w3 [.sh 2 (mrows 2 fSig x.signals.length (k0 + ((cntTrs x.net.trs : Nat) : Int)))] [u2] b2 := by
    have i1 := HW2.out
    exact i1.keep fun k hk => HL3.out.block k (i1.inb k hk) (by intro hm; grind)
  have k4 : VR w3 (.lit (.string x.start)) u4 b4 := by
    have i0 := V4.out
    cases i0 with
    | lit i1 => exact .lit i1
  have := k1.append (k2.append (HW3.out.append (VRs.cons k4 .nil)))
  simpa [stgX] using this
end Go.Proofs.Ytcbfpeplcbgpjaa
