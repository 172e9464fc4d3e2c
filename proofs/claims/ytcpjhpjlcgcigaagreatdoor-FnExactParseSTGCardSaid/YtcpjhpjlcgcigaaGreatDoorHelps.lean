/- The laws' helpers sz, to, eq, mark, held, as contracts of the engine. -/
import Derived.Test.YtcpjhpjlcgcigaaGreatDoorMarkV
import Derived.Test.YtcpjhpjlcgcigaaGreatDoorSz
import Derived.Test.YtcpjhpjlcgcigaaGreatDoorTo
import Derived.Test.YtcpjhpjlcgcigaaGreatDoorEq
set_option linter.unusedSimpArgs false
set_option linter.unusedVariables false
namespace Go.Proofs.YtcpjhpjlcgcigaaGreatDoor
open Go.ChangeShapes Go.WideShapes Go.ChangeAt Go.RowKit

theorem eqIntS_f (x : (List Int)) : Fn Tryz.prog 95 [.sh 1 (ints x), .sh 1 (ints x)] (.lit (.bool true)) [] := by
  refine Fn.of_lit trivial (plain_of Tryz.func95 (by kernel_rfl) (by kernel_rfl)) fun w us h => ?_
  obtain ⟨u, us', rfl, h1, h2⟩ := vxs_cons h
  obtain ⟨u2, rfl, h3⟩ := vxs_one h2
  have hR0 := ((br_sl br_int)).of_vxs (x := x) rfl (.cons h1 .nil)
  obtain ⟨a0, c0, e0⟩ : ∃ a c, u = .slice a x.length c := by obtain ⟨_, a, c, h, _⟩ := hR0; exact ⟨a, c, by simpa using h⟩
  subst e0
  have hR1 := ((br_sl br_int)).of_vxs (x := x) rfl (.cons h3 .nil)
  obtain ⟨a1, c1, e1⟩ : ∃ a c, u2 = .slice a x.length c := by obtain ⟨_, a, c, h, _⟩ := hR1; exact ⟨a, c, by simpa using h⟩
  subst e1
  exact eqIntS_c w _ _ _ _ x hR0 hR1

theorem eqTransitionS_f (x : (List Tr)) : Fn Tryz.prog 47 [.sh 2 (x.map dTr), .sh 2 (x.map dTr)] (.lit (.bool true)) [] := by
  refine Fn.of_lit trivial (plain_of Tryz.func47 (by kernel_rfl) (by kernel_rfl)) fun w us h => ?_
  obtain ⟨u, us', rfl, h1, h2⟩ := vxs_cons h
  obtain ⟨u2, rfl, h3⟩ := vxs_one h2
  have hR0 := ((br_sl br_Tr)).of_vxs (x := x) rfl (.cons h1 .nil)
  obtain ⟨a0, c0, e0⟩ : ∃ a c, u = .slice a x.length c := by obtain ⟨_, a, c, h, _⟩ := hR0; exact ⟨a, c, by simpa using h⟩
  subst e0
  have hR1 := ((br_sl br_Tr)).of_vxs (x := x) rfl (.cons h3 .nil)
  obtain ⟨a1, c1, e1⟩ : ∃ a c, u2 = .slice a x.length c := by obtain ⟨_, a, c, h, _⟩ := hR1; exact ⟨a, c, by simpa using h⟩
  subst e1
  exact eqTransitionS_c w _ _ _ _ x hR0 hR1

theorem eqSignalS_f (x : (List Sig)) : Fn Tryz.prog 20 [.sh 2 (x.map dSig), .sh 2 (x.map dSig)] (.lit (.bool true)) [] := by
  refine Fn.of_lit trivial (plain_of Tryz.func20 (by kernel_rfl) (by kernel_rfl)) fun w us h => ?_
  obtain ⟨u, us', rfl, h1, h2⟩ := vxs_cons h
  obtain ⟨u2, rfl, h3⟩ := vxs_one h2
  have hR0 := ((br_sl br_Sig)).of_vxs (x := x) rfl (.cons h1 .nil)
  obtain ⟨a0, c0, e0⟩ : ∃ a c, u = .slice a x.length c := by obtain ⟨_, a, c, h, _⟩ := hR0; exact ⟨a, c, by simpa using h⟩
  subst e0
  have hR1 := ((br_sl br_Sig)).of_vxs (x := x) rfl (.cons h3 .nil)
  obtain ⟨a1, c1, e1⟩ : ∃ a c, u2 = .slice a x.length c := by obtain ⟨_, a, c, h, _⟩ := hR1; exact ⟨a, c, by simpa using h⟩
  subst e1
  exact eqSignalS_c w _ _ _ _ x hR0 hR1

theorem eqLabelS_f (x : (List Lab)) : Fn Tryz.prog 21 [.sh 2 (x.map dLab), .sh 2 (x.map dLab)] (.lit (.bool true)) [] := by
  refine Fn.of_lit trivial (plain_of Tryz.func21 (by kernel_rfl) (by kernel_rfl)) fun w us h => ?_
  obtain ⟨u, us', rfl, h1, h2⟩ := vxs_cons h
  obtain ⟨u2, rfl, h3⟩ := vxs_one h2
  have hR0 := ((br_sl br_Lab)).of_vxs (x := x) rfl (.cons h1 .nil)
  obtain ⟨a0, c0, e0⟩ : ∃ a c, u = .slice a x.length c := by obtain ⟨_, a, c, h, _⟩ := hR0; exact ⟨a, c, by simpa using h⟩
  subst e0
  have hR1 := ((br_sl br_Lab)).of_vxs (x := x) rfl (.cons h3 .nil)
  obtain ⟨a1, c1, e1⟩ : ∃ a c, u2 = .slice a x.length c := by obtain ⟨_, a, c, h, _⟩ := hR1; exact ⟨a, c, by simpa using h⟩
  subst e1
  exact eqLabelS_c w _ _ _ _ x hR0 hR1

theorem eqTransition_f (x : Tr) : Fn Tryz.prog 72 [.agg (dTr x), .agg (dTr x)] (.lit (.bool true)) [] := by
  refine Fn.of_lit trivial (plain_of Tryz.func72 (by kernel_rfl) (by kernel_rfl)) fun w us h => ?_
  obtain ⟨u, us', rfl, h1, h2⟩ := vxs_cons h
  obtain ⟨u2, rfl, h3⟩ := vxs_one h2
  obtain ⟨us0, rfl, q0⟩ := h1.agg_inv
  have hR0 := br_Tr.of_vxs rfl q0
  obtain ⟨a0_0, c0_0, a0_1, c0_1, rfl⟩ := shape_Tr hR0
  obtain ⟨us1, rfl, q1⟩ := h3.agg_inv
  have hR1 := br_Tr.of_vxs rfl q1
  obtain ⟨a1_0, c1_0, a1_1, c1_1, rfl⟩ := shape_Tr hR1
  exact eqTransition_c w _ _ _ _ _ _ _ _ x hR0 hR1

theorem eqNet_f (x : NetD) : Fn Tryz.prog 19 [.agg (dNetD x), .agg (dNetD x)] (.lit (.bool true)) [] := by
  refine Fn.of_lit trivial (plain_of Tryz.func19 (by kernel_rfl) (by kernel_rfl)) fun w us h => ?_
  obtain ⟨u, us', rfl, h1, h2⟩ := vxs_cons h
  obtain ⟨u2, rfl, h3⟩ := vxs_one h2
  obtain ⟨us0, rfl, q0⟩ := h1.agg_inv
  have hR0 := br_NetD.of_vxs rfl q0
  obtain ⟨a0_1, c0_1, rfl⟩ := shape_NetD hR0
  obtain ⟨us1, rfl, q1⟩ := h3.agg_inv
  have hR1 := br_NetD.of_vxs rfl q1
  obtain ⟨a1_1, c1_1, rfl⟩ := shape_NetD hR1
  exact eqNet_c w _ _ _ _ x hR0 hR1

theorem eqSignal_f (x : Sig) : Fn Tryz.prog 48 [.agg (dSig x), .agg (dSig x)] (.lit (.bool true)) [] := by
  refine Fn.of_lit trivial (plain_of Tryz.func48 (by kernel_rfl) (by kernel_rfl)) fun w us h => ?_
  obtain ⟨u, us', rfl, h1, h2⟩ := vxs_cons h
  obtain ⟨u2, rfl, h3⟩ := vxs_one h2
  obtain ⟨us0, rfl, q0⟩ := h1.agg_inv
  have hR0 := br_Sig.of_vxs rfl q0
  obtain rfl := shape_Sig hR0
  obtain ⟨us1, rfl, q1⟩ := h3.agg_inv
  have hR1 := br_Sig.of_vxs rfl q1
  obtain rfl := shape_Sig hR1
  exact eqSignal_c w x hR0 hR1

theorem eqLabel_f (x : Lab) : Fn Tryz.prog 49 [.agg (dLab x), .agg (dLab x)] (.lit (.bool true)) [] := by
  refine Fn.of_lit trivial (plain_of Tryz.func49 (by kernel_rfl) (by kernel_rfl)) fun w us h => ?_
  obtain ⟨u, us', rfl, h1, h2⟩ := vxs_cons h
  obtain ⟨u2, rfl, h3⟩ := vxs_one h2
  obtain ⟨us0, rfl, q0⟩ := h1.agg_inv
  have hR0 := br_Lab.of_vxs rfl q0
  obtain rfl := shape_Lab hR0
  obtain ⟨us1, rfl, q1⟩ := h3.agg_inv
  have hR1 := br_Lab.of_vxs rfl q1
  obtain rfl := shape_Lab hR1
  exact eqLabel_c w x hR0 hR1

theorem eqSTG_f (x : Stg) : Fn Tryz.prog 6 [.agg (dStg x), .agg (dStg x)] (.lit (.bool true)) [] := by
  refine Fn.of_lit trivial (plain_of Tryz.func6 (by kernel_rfl) (by kernel_rfl)) fun w us h => ?_
  obtain ⟨u, us', rfl, h1, h2⟩ := vxs_cons h
  obtain ⟨u2, rfl, h3⟩ := vxs_one h2
  obtain ⟨us0, rfl, q0⟩ := h1.agg_inv
  have hR0 := br_Stg.of_vxs rfl q0
  obtain ⟨a0_1, c0_1, a0_2, c0_2, a0_3, c0_3, rfl⟩ := shape_Stg hR0
  obtain ⟨us1, rfl, q1⟩ := h3.agg_inv
  have hR1 := br_Stg.of_vxs rfl q1
  obtain ⟨a1_1, c1_1, a1_2, c1_2, a1_3, c1_3, rfl⟩ := shape_Stg hR1
  exact eqSTG_c w _ _ _ _ _ _ _ _ _ _ _ _ x hR0 hR1

theorem markIntS_m (l : (List Int)) (k0 : Int) (h0 : 0 ≤ k0) (h1 : k0 ≤ 1000000000000) (hl : l.length ≤ 1048576) : MFn Tryz.prog 73 false [.sh 1 (ints l)] k0 (k0 + ((l.length * 1 : Nat) : Int)) (some [.sh 1 (mrows 1 fInt l.length k0)]) :=
  mfn_flat (m := 1) br_int rfl (by intro x d hd; simp at hd; subst hd; rfl) (plain_of Tryz.func73 (by kernel_rfl) (by kernel_rfl)) (mvals_all (fun i q hi h2 h3 => by
    match i, hi with
    | _, _ => exact litOk_i64.2 (by omega))) (litOk_i64.2 (by omega)) fun w a c bs h hu => markIntS_c w a c l bs k0 h hu h0 (by omega) hl

theorem heldIntS_f (n : Nat) (k0 : Int) (h0 : 0 ≤ k0) (h1 : k0 ≤ 1000000000000) (hl : n ≤ 1048576) : Fn Tryz.prog 74 [.sh 1 (mrows 1 fInt n k0), .lit (.int .i64 k0)] (.lit (.int .i64 (k0 + ((n * 1 : Nat) : Int)))) [] :=
  held_flat (plain_of Tryz.func74 (by kernel_rfl) (by kernel_rfl)) (litOk_i64.2 (by omega)) fun w a c h => heldIntS_c w a c n k0 h h0 (by omega) hl

theorem markSignalS_m (l : (List Sig)) (k0 : Int) (h0 : 0 ≤ k0) (h1 : k0 ≤ 1000000000000) (hl : l.length ≤ 1048576) : MFn Tryz.prog 23 false [.sh 2 (l.map dSig)] k0 (k0 + ((l.length * 2 : Nat) : Int)) (some [.sh 2 (mrows 2 fSig l.length k0)]) :=
  mfn_flat (m := 2) br_Sig rfl (by intro x d hd; simp [dSig] at hd; rcases hd with rfl | rfl <;> rfl) (plain_of Tryz.func23 (by kernel_rfl) (by kernel_rfl)) (mvals_all (fun i q hi h2 h3 => by
    match i, hi with
    | 0, _ => (have := markStr_size q; show (markStr q).size ≤ 9223372036854775807; omega)
    | 1, _ => exact litOk_i64.2 (by omega))) (litOk_i64.2 (by omega)) fun w a c bs h hu => markSignalS_c w a c l bs k0 h hu h0 (by omega) hl

theorem markLabelS_m (l : (List Lab)) (k0 : Int) (h0 : 0 ≤ k0) (h1 : k0 ≤ 1000000000000) (hl : l.length ≤ 1048576) : MFn Tryz.prog 24 false [.sh 2 (l.map dLab)] k0 (k0 + ((l.length * 2 : Nat) : Int)) (some [.sh 2 (mrows 2 fLab l.length k0)]) :=
  mfn_flat (m := 2) br_Lab rfl (by intro x d hd; simp [dLab] at hd; rcases hd with rfl | rfl <;> rfl) (plain_of Tryz.func24 (by kernel_rfl) (by kernel_rfl)) (mvals_all (fun i q hi h2 h3 => by
    match i, hi with
    | 0, _ => exact litOk_i64.2 (by omega)
    | 1, _ => exact trivial)) (litOk_i64.2 (by omega)) fun w a c bs h hu => markLabelS_c w a c l bs k0 h hu h0 (by omega) hl

theorem heldLabelS_f (n : Nat) (k0 : Int) (h0 : 0 ≤ k0) (h1 : k0 ≤ 1000000000000) (hl : n ≤ 1048576) : Fn Tryz.prog 27 [.sh 2 (mrows 2 fLab n k0), .lit (.int .i64 k0)] (.lit (.int .i64 (k0 + ((n * 2 : Nat) : Int)))) [] :=
  held_flat (plain_of Tryz.func27 (by kernel_rfl) (by kernel_rfl)) (litOk_i64.2 (by omega)) fun w a c h => heldLabelS_c w a c n k0 h h0 (by omega) hl

theorem cntTrs_le {l : List Tr} (hz : szTrs l ≤ 1048576) : cntTrs l ≤ 1048576 := by
  unfold szTrs at hz
  have e : (l.map fun x => szTr x).sum = cntTrs l := rfl
  first | omega | (rw [e] at hz; omega)

theorem markTransitionS_m (l : List Tr) (k0 : Int) (h0 : 0 ≤ k0) (h1 : k0 ≤ 100000000000) (hz : szTrs l ≤ 1048576) : MFn Tryz.prog 50 false [.sh 2 (l.map dTr)] k0 (k0 + (cntTrs l : Nat)) none := by
  have hc := cntTrs_le hz
  refine mfn_none (f := fun l : List Tr => [.sh tTr.n (l.map dTr)]) (br_sl br_Tr) (plain_of Tryz.func50 (by kernel_rfl) (by kernel_rfl)) (litOk_i64.2 (by omega)) fun w us bs h hd hu => ?_
  obtain ⟨a, c, e, _⟩ := id h
  subst e
  exact markTransitionS_w w a c l bs k0 h hd hu h0 h1 hz

theorem markNet_le (x : NetD) (hz : szNetD x ≤ 1048576) : cntTrs x.trs ≤ 8388608 := by
  simp only [szNetD] at hz
  refine Nat.le_trans (cntTrs_le (by omega)) (by decide)

set_option maxHeartbeats 800000 in
theorem markNet_m (x : NetD) (k0 : Int) (h0 : 0 ≤ k0) (h1 : k0 ≤ 1000000000) (hz : szNetD x ≤ 1048576) : MFn Tryz.prog 22 true (dNetD x) k0 (k0 + ((cntTrs x.trs : Nat) : Int)) none := by
  have hz' := hz
  simp only [szNetD] at hz'
  have hc_trs : cntTrs x.trs ≤ 1048576 := cntTrs_le (by omega)
  refine ⟨(plain_of Tryz.func22 (by kernel_rfl) (by kernel_rfl)), litOk_i64.2 (by omega), fun w us bs hv hnd hun => ?_⟩
  obtain ⟨u0, us0, b0, bs0, rfl, rfl, v0, t0⟩ := vrs_cons hv
  obtain ⟨u1, us1, b1, bs1, rfl, rfl, v1, t1⟩ := vrs_cons t0
  obtain ⟨rfl, rfl⟩ := vrs_nil t1
  have HV := Lib.hid hv
  have HND := Lib.hid hnd
  have HUN := Lib.hid hun
  clear hnd hun hv t0 t1
  have HIN : Hid (∀ k ∈ b0 ++ (b1 ++ []), k < w.heap.size) := Lib.hid HV.out.inb
  show Calls Tryz.prog 22 #[.agg #[u0, u1], .int .i64 k0] w _
  have hE0 : Ext w (w.alloc (.cells #[u0, u1] 24)) := (Ext.refl w).alloc _
  have V0 := Lib.hid v0
  have V1 := Lib.hid v1
  clear v0 v1
  go_enter Tryz.func22, Tryz.ntmps22
  go_wp2_with fail
  have hsub0 : List.Sublist b1 (b0 ++ (b1 ++ [])) := ((List.sublist_append_left _ _).trans (List.sublist_append_right _ _))
  refine (MFn.next (markTransitionS_m x.trs _ (by omega) (by omega) (by omega)) (bs := b1) (us := [u1]) ((Turn.of_ext hE0 : Turn [] w _)) (by simpa using VRs.cons V1.out .nil) (HND.out.sublist hsub0) (fun k hk => HUN.out k (hsub0.subset hk)) (by intro k hk hk2; simp at hk2)).mono ?_
  rintro e w1 ⟨rfl, ht1, hT1⟩
  have HT1 := Lib.hid hT1
  clear ht1 hT1
  go_wp2
  go_ret
  exact ⟨ret_int (by omega), HT1.out.mono (fun k hk => by simp only [List.append_nil, List.nil_append, List.mem_append] at hk ⊢; grind), fun l h => by cases h⟩

theorem markSTG_le (x : Stg) (hz : szStg x ≤ 1048576) : cntTrs x.net.trs ≤ 8388608 ∧ (x.signals.length * 2) ≤ 8388608 ∧ (x.labels.length * 2) ≤ 8388608 := by
  simp only [szStg, szNetD, szSigs, szLabs] at hz
  refine ⟨Nat.le_trans (cntTrs_le (by omega)) (by decide), by omega, by omega⟩

set_option maxHeartbeats 800000 in
theorem markSTG_m (x : Stg) (k0 : Int) (h0 : 0 ≤ k0) (h1 : k0 ≤ 1000000000) (hz : szStg x ≤ 1048576) : MFn Tryz.prog 7 true (dStg x) k0 (k0 + ((cntTrs x.net.trs : Nat) : Int) + (((x.signals.length * 2) : Nat) : Int) + (((x.labels.length * 2) : Nat) : Int)) none := by
  have hz' := hz
  simp only [szStg, szNetD, szSigs, szLabs] at hz'
  have hc_net : cntTrs x.net.trs ≤ 1048576 := cntTrs_le (by omega)
  refine ⟨(plain_of Tryz.func7 (by kernel_rfl) (by kernel_rfl)), litOk_i64.2 (by omega), fun w us bs hv hnd hun => ?_⟩
  obtain ⟨u0, us0, b0, bs0, rfl, rfl, v0, t0⟩ := vrs_cons hv
  obtain ⟨u1, us1, b1, bs1, rfl, rfl, v1, t1⟩ := vrs_cons t0
  obtain ⟨u2, us2, b2, bs2, rfl, rfl, v2, t2⟩ := vrs_cons t1
  obtain ⟨u3, us3, b3, bs3, rfl, rfl, v3, t3⟩ := vrs_cons t2
  obtain ⟨u4, us4, b4, bs4, rfl, rfl, v4, t4⟩ := vrs_cons t3
  obtain ⟨rfl, rfl⟩ := vrs_nil t4
  have HV := Lib.hid hv
  have HND := Lib.hid hnd
  have HUN := Lib.hid hun
  clear hnd hun hv t0 t1 t2 t3 t4
  have HIN : Hid (∀ k ∈ b0 ++ (b1 ++ (b2 ++ (b3 ++ (b4 ++ [])))), k < w.heap.size) := Lib.hid HV.out.inb
  show Calls Tryz.prog 7 #[.agg #[u0, u1, u2, u3, u4], .int .i64 k0] w _
  have hE0 : Ext w (w.alloc (.cells #[u0, u1, u2, u3, u4] 28)) := (Ext.refl w).alloc _
  have V0 := Lib.hid v0
  have V1 := Lib.hid v1
  have V2 := Lib.hid v2
  have V3 := Lib.hid v3
  have V4 := Lib.hid v4
  clear v0 v1 v2 v3 v4
  go_enter Tryz.func7, Tryz.ntmps7
  go_wp2_with fail
  have hsub0 : List.Sublist (b0 ++ (b1 ++ ([]))) (b0 ++ (b1 ++ (b2 ++ (b3 ++ (b4 ++ []))))) := ((List.Sublist.refl _).append ((List.Sublist.refl _).append (List.nil_sublist _)))
  refine (MFn.next (markNet_m x.net _ (by omega) (by omega) (by simp only [szNetD]; omega)) (bs := (b0 ++ (b1 ++ ([])))) (us := [u0, u1]) ((Turn.of_ext hE0 : Turn [] w _)) (.cons V0.out (.cons V1.out (.nil))) (HND.out.sublist hsub0) (fun k hk => HUN.out k (hsub0.subset hk)) (by intro k hk hk2; simp at hk2)).mono ?_
  rintro e w1 ⟨rfl, ht1, hT1⟩
  have HT1 := Lib.hid hT1
  have hb1_2 : w1.cell? ⟨w.heap.size, 2, none⟩ = some u2 := by rw [cell_of_heap (ht1.block _ (by simp) (fun hm => absurd (HIN.out _ (hsub0.subset hm)) (Nat.lt_irrefl _)))]; exact World.cell?_alloc_new _ _ _ _
  have hb1_3 : w1.cell? ⟨w.heap.size, 3, none⟩ = some u3 := by rw [cell_of_heap (ht1.block _ (by simp) (fun hm => absurd (HIN.out _ (hsub0.subset hm)) (Nat.lt_irrefl _)))]; exact World.cell?_alloc_new _ _ _ _
  clear ht1 hT1
  go_wp2_with fail
  have hsub1 : List.Sublist b2 (b0 ++ (b1 ++ (b2 ++ (b3 ++ (b4 ++ []))))) := (((List.sublist_append_left _ _).trans (List.sublist_append_right _ _)).trans (List.sublist_append_right _ _))
  refine (MFn.next (markSignalS_m x.signals _ (by omega) (by omega) (by omega)) (bs := b2) (us := [u2]) HT1.out (by simpa using VRs.cons V2.out .nil) (HND.out.sublist hsub1) (fun k hk => HUN.out k (hsub1.subset hk)) (by have := HND.out; simp only [List.append_nil, List.nodup_append, List.mem_append, ne_eq] at this; intro k hk hk2; simp only [List.append_nil, List.nil_append, List.mem_append] at hk hk2; grind)).mono ?_
  rintro e w2 ⟨rfl, ht2, hT2⟩
  have HT2 := Lib.hid hT2
  have hb2_3 : w2.cell? ⟨w.heap.size, 3, none⟩ = some u3 := by rw [cell_of_heap (ht2.block _ (lt_of_cell hb1_3) (fun hm => absurd (HIN.out _ (hsub1.subset hm)) (Nat.lt_irrefl _)))]; exact hb1_3
  clear ht2 hT2
  go_wp2_with fail
  have hsub2 : List.Sublist b3 (b0 ++ (b1 ++ (b2 ++ (b3 ++ (b4 ++ []))))) := ((((List.sublist_append_left _ _).trans (List.sublist_append_right _ _)).trans (List.sublist_append_right _ _)).trans (List.sublist_append_right _ _))
  refine (MFn.next (markLabelS_m x.labels _ (by omega) (by omega) (by omega)) (bs := b3) (us := [u3]) HT2.out (by simpa using VRs.cons V3.out .nil) (HND.out.sublist hsub2) (fun k hk => HUN.out k (hsub2.subset hk)) (by have := HND.out; simp only [List.append_nil, List.nodup_append, List.mem_append, ne_eq] at this; intro k hk hk2; simp only [List.append_nil, List.nil_append, List.mem_append] at hk hk2; grind)).mono ?_
  rintro e w3 ⟨rfl, ht3, hT3⟩
  have HT3 := Lib.hid hT3
  clear ht3 hT3
  go_wp2
  go_ret
  exact ⟨ret_int (by omega), HT3.out.mono (fun k hk => by simp only [List.append_nil, List.nil_append, List.mem_append] at hk ⊢; grind), fun l h => by cases h⟩
end Go.Proofs.YtcpjhpjlcgcigaaGreatDoor
