/- The laws' own helpers: to, a value in memory of its own. -/
import Derived.Test.YtkegeacjalechaaDoorSz
set_option linter.unusedSimpArgs false
set_option linter.unusedVariables false
namespace Go.Proofs.YtkegeacjalechaaDoor
open Go.ChangeShapes Go.WideShapes Go.ChangeAt Go.RowKit
theorem sum_nth_le {α : Type} [Inhabited α] (l : List α) (f : α → Nat) {k : Nat} (h : k < l.length) : f (nth l k) ≤ (l.map f).sum := by
  have h1 := sum_take_succ l f h
  have h2 := sum_take_map_le l f (k + 1)
  omega

theorem info_Int : (Tryd.prog.info? 3).map (fun i => (i.zero, i.size, i.bytes)) = some (some (.int .i64 0), 1, 8) := by kernel_rfl

set_option maxHeartbeats 400000 in
theorem toIntS_c (w : World) (a : Option Addr) (c : Nat) (l : List Int) (h : (tSl tInt).R w l [.slice a l.length c]) (hz : szInts l ≤ 1048576) :
    Calls Tryd.prog 84 #[.slice a l.length c] w fun e w' => ∃ a' c', e = .returned (.slice a' l.length c') ∧ Fr (tSl tInt) w.heap.size w'.heap.size w' l [.slice a' l.length c'] ∧ Ext w w' := by
  obtain ⟨_, _, _, _, hs⟩ := R_sl.1 h
  have hl : l.length ≤ 1048576 := by unfold szInts at hz; omega
  obtain ⟨i0, hi, hz0, hz1, hz2⟩ := info_parts info_Int
  have hs1 : i0.bytes * l.length ≤ 281474976710656 := by rw [hz2]; omega
  have hs2 : l.length ≤ maxLen := by unfold maxLen; omega
  have HA := Lib.hid hi
  have HB := Lib.hid hz0
  have HC := Lib.hid hz1
  clear hi hz0 hz1 hz2 h
  go_enter Tryd.func84, Tryd.ntmps84
  go_wp2_with (at_make; refine wpList_make_full _ rfl _ _ 61 rfl w.heap.size 3 i0 (.int .i64 0) 1 Tryd.underlying61 HA.out HB.out HC.out _ _ _ _ l.length rfl rfl rfl rfl hs1 hs2 (Nat.le_refl _) ?_; intro w1 hown hgrow)
  have hb1 : Ext w w1 := (Ext.refl _).grown hgrow
  have hw1 : w.heap.size < w1.heap.size := (hown.lt _ rfl).2
  have HO := Lib.hid hown
  clear hown hgrow
  go_loopw [4] (fun i wr => ∃ k : Nat, ∃ xs, k ≤ l.length ∧ i = .int .i64 k ∧ wr.ownsRow w.heap.size 3 1 (.slice (some ⟨w.heap.size, 0, none⟩) l.length l.length) l.length xs ∧ xs.take k = (l.take k).map (Value.int .i64) ∧ Ext w wr) (fun i _ => l.length - (intOf i).toNat)
  case atStart => exact ⟨0, _, Nat.zero_le _, rfl, by simpa using HO.out, by simp, hb1⟩
  case round =>
    clear hb1 HO hw1
    obtain ⟨k, xs, hk, rfl, hown, hxs, hb⟩ := hrel
    by_cases hlt : k < l.length
    · obtain ⟨b, o, rfl, hbs, hel⟩ := hs.get (by omega)
      have hcr := (at_int ((hel k hlt).ext hb hbs)).1
      have HX := Lib.hid hxs
      clear hel hxs
      simp only [tInt, Nat.mul_one] at hcr
      have hxl : k < xs.length := by have := hown.1; omega
      obtain ⟨u, hcg⟩ := own_cell hown (j := k) (by omega)
      have hfg := hown.frozenAt k
      have HS := Lib.hid (hown.stored k (.int .i64 (nth l k)))
      have HL := Lib.hid hxl
      clear hxl hown
      go_wp2
      go_roundw
      case rel => exact ⟨k + 1, _, by omega, by go_num, HS.out.1, by rw [take_set_snoc _ _ _ HL.out, HX.out, take_nth hlt, List.map_append]; rfl, hb.setCell (Nat.le_refl _) _⟩
      case measure => simp [intOf]; omega
    · obtain rfl : k = l.length := by omega
      have HX := Lib.hid hxs
      have HW := Lib.hid hown
      clear hxs hown
      go_wp2
      go_ret
      refine ⟨_, _, rfl, ?_, hb⟩
      have hx : xs = l.map (Value.int .i64) := by
        have := HX.out
        rwa [List.take_of_length_le (by have := HW.out.1; omega), List.take_of_length_le (Nat.le_refl _)] at this
      subst hx
      exact Fr.of_own_flat HW.out (row_ints _ _ hs.int64) (Nat.le_refl _) (flat_nil _)

set_option maxHeartbeats 1600000 in
theorem toTransition_c (w : World) (a0 : Option Addr) (c0 : Nat) (a1 : Option Addr) (c1 : Nat) (x : Tr) (h : tTr.R w x [.slice a0 x.pre.length c0, .slice a1 x.post.length c1]) (hz : szTr x ≤ 1048576) :
    Calls Tryd.prog 71 #[.agg #[.slice a0 x.pre.length c0, .slice a1 x.post.length c1]] w fun e w' => ∃ a0' c0' a1' c1', e = .returned (.agg #[.slice a0' x.pre.length c0', .slice a1' x.post.length c1']) ∧ Fr tTr w.heap.size w'.heap.size w' x [.slice a0' x.pre.length c0', .slice a1' x.post.length c1'] ∧ Ext w w' := by
  obtain ⟨h_pre, h_post⟩ := R_Tr.1 h
  clear h
  have hz_pre : szInts x.pre ≤ 1048576 := by unfold szTr at hz; omega
  have H_pre := Lib.hid h_pre
  clear h_pre
  have hz_post : szInts x.post ≤ 1048576 := by unfold szTr at hz; omega
  have H_post := Lib.hid h_post
  clear h_post
  clear hz
  go_enter Tryd.func71, Tryd.ntmps71
  go_wp2_with fail
  refine (toIntS_c _ _ _ _ (Ty.R.ext H_pre.out (by repeat (first | with_reducible exact Ext.refl _ | with_reducible exact Ext.refl _ | refine Ext.setCell ?_ (by (try simp only []); omega) _ | refine Ext.alloc ?_ _))) hz_pre).mono ?_
  rintro e w1 ⟨a0', c0', rfl, hf0, hx0⟩
  have hE1 : Ext w w1 := Ext.trans (by repeat (first | with_reducible exact Ext.refl _ | with_reducible exact Ext.refl _ | refine Ext.setCell ?_ (by (try simp only []); omega) _ | refine Ext.alloc ?_ _)) hx0
  obtain ⟨hk0, hq0⟩ := hx0.cells
  have hs0 := hx0.size
  try simp only [World.size_alloc] at hk0 hq0 hs0 hf0
  try simp only [World.size_setCell] at hk0 hq0 hs0 hf0
  have hl00 : w.heap.size < w1.heap.size := by omega
  have hl01 : w.heap.size + 1 < w1.heap.size := by omega
  have hl02 : w.heap.size + 1 + 1 < w1.heap.size := by omega
  go_wp2_with fail
  refine (toIntS_c _ _ _ _ (Ty.R.ext H_post.out (by repeat (first | with_reducible exact hE1 | with_reducible exact Ext.refl _ | refine Ext.setCell ?_ (by (try simp only []); omega) _ | refine Ext.alloc ?_ _))) hz_post).mono ?_
  rintro e w2 ⟨a1', c1', rfl, hf1, hx1⟩
  have hE2 : Ext w w2 := Ext.trans (by repeat (first | with_reducible exact hE1 | with_reducible exact Ext.refl _ | refine Ext.setCell ?_ (by (try simp only []); omega) _ | refine Ext.alloc ?_ _)) hx1
  obtain ⟨hk1, hq1⟩ := hx1.cells
  have hs1 := hx1.size
  try simp only [World.size_alloc] at hk1 hq1 hs1 hf1
  try simp only [World.size_setCell] at hk1 hq1 hs1 hf1
  have hl10 : w.heap.size < w2.heap.size := by omega
  have hl11 : w.heap.size + 1 < w2.heap.size := by omega
  have hl12 : w.heap.size + 1 + 1 < w2.heap.size := by omega
  go_wp2
  refine bodyPost_ret (v := .agg #[.slice a0' x.pre.length c0', .slice a1' x.post.length c1']) (by simp [results, Tryd.results71, go_sem, hk0, hk1, hl00, hl01, hl02, hl10, hl11, hl12]) rfl ⟨_, _, _, _, rfl, ?_, (by repeat (first | with_reducible exact hE2 | with_reducible exact Ext.refl _ | refine Ext.setCell ?_ (by (try simp only []); omega) _ | refine Ext.alloc ?_ _))⟩
  try simp only [World.size_alloc]
  try simp only [World.size_setCell]
  refine Fr.iso ?_
  exact Fr.pair (cs := [.slice a0' x.pre.length c0']) (ds := [.slice a1' x.post.length c1']) (lo := w.heap.size) (mid := w1.heap.size) (hi := w2.heap.size) (Fr.low (lo := w.heap.size + 1 + 1 + 1) (lo' := w.heap.size) (by repeat (first | with_reducible exact hf0 | refine Fr.setCell ?_ (Or.inl (by (try simp only []); omega)) _ | refine Fr.ext ?_ hx1)) (by omega)) ((Fr.low (lo := w1.heap.size) (lo' := w1.heap.size) (by repeat (first | with_reducible exact hf1 | refine Fr.setCell ?_ (Or.inl (by (try simp only []); omega)) _)) (by omega))) (by omega) (by omega)

theorem info_Tr : (Tryd.prog.info? 63).map (fun i => (i.zero, i.size, i.bytes)) = some (some (.agg #[.slice none 0 0, .slice none 0 0]), 2, 48) := by kernel_rfl

set_option maxHeartbeats 400000 in
theorem toTransitionS_c (w : World) (a : Option Addr) (c : Nat) (l : List Tr) (h : (tSl tTr).R w l [.slice a l.length c]) (hz : szTrs l ≤ 1048576) :
    Calls Tryd.prog 50 #[.slice a l.length c] w fun e w' => ∃ a' c', e = .returned (.slice a' l.length c') ∧ Fr (tSl tTr) w.heap.size w'.heap.size w' l [.slice a' l.length c'] ∧ Ext w w' := by
  obtain ⟨_, _, _, _, hs⟩ := R_sl.1 h
  have hl : l.length ≤ 1048576 := by unfold szTrs at hz; omega
  obtain ⟨i0, hi, hz0, hz1, hz2⟩ := info_parts info_Tr
  have hs1 : i0.bytes * l.length ≤ 281474976710656 := by rw [hz2]; omega
  have hs2 : l.length ≤ maxLen := by unfold maxLen; omega
  have HA := Lib.hid hi
  have HB := Lib.hid hz0
  have HC := Lib.hid hz1
  clear hi hz0 hz1 hz2 h
  have HZ : Hid (∀ k, k < l.length → szTr (nth l k) ≤ 1048576) := Lib.hid (fun k hk => by have := sum_nth_le l (fun x => szTr x) hk; unfold szTrs at hz; omega)
  go_enter Tryd.func50, Tryd.ntmps50
  go_wp2_with (at_make; refine wpList_make_full _ rfl _ _ 32 rfl w.heap.size 63 i0 (.agg #[.slice none 0 0, .slice none 0 0]) 2 Tryd.underlying32 HA.out HB.out HC.out _ _ _ _ l.length rfl rfl rfl rfl hs1 hs2 (Nat.le_refl _) ?_; intro w1 hown hgrow)
  have hb1 : Ext w w1 := (Ext.refl _).grown hgrow
  have hw1 : w.heap.size < w1.heap.size := (hown.lt _ rfl).2
  have HO := Lib.hid hown
  clear hown hgrow
  go_loopw [4] (fun i wr => ∃ k : Nat, ∃ xs bss, k ≤ l.length ∧ i = .int .i64 k ∧ wr.ownsRow w.heap.size 63 2 (.slice (some ⟨w.heap.size, 0, none⟩) l.length l.length) l.length xs ∧ Row tTr wr (l.take k) bss (xs.take (k * 2)) ∧ FrB (w.heap.size + 1) wr bss ∧ Ext w wr ∧ w.heap.size < wr.heap.size) (fun i _ => l.length - (intOf i).toNat)
  case atStart => exact ⟨0, _, [], Nat.zero_le _, rfl, by simpa using HO.out, by simpa using Row.nil _, FrB.nil _ _, hb1, hw1⟩
  case round =>
    clear hb1 HO hw1
    obtain ⟨k, xs, bss, hk, rfl, hown, hrow, hfb, hb, hgs⟩ := hrel
    by_cases hlt : k < l.length
    · obtain ⟨b, o, rfl, hbs, hel⟩ := hs.get (by omega)
      obtain ⟨a0, c0, a1, c1, hc0, hc1, hR⟩ := at_Tr ((hel k hlt).ext hb hbs)
      simp only [show tTr.n = 2 from rfl] at hc0 hc1
      clear hel
      have HX := Lib.hid hrow
      have HW := Lib.hid hown
      have HR := Lib.hid hR
      clear hrow hown hR
      go_wp2_with fail
      refine (toTransition_c _ _ _ _ _ _ HR.out (HZ.out k hlt)).mono ?_
      rintro e w2 ⟨a0', c0', a1', c1', rfl, hf, hx⟩
      have hx2 := hb.trans hx
      have ho2 := ownsRow_ext HW.out hx
      obtain ⟨bs, hrep, hnd, hin⟩ := hf
      have hs2' := hx.size
      obtain ⟨u0, hg0⟩ := own_cell ho2 (j := k * 2) (by omega)
      have hz0 := ho2.frozenAt (k * 2)
      obtain ⟨u1, hg1⟩ := own_cell ho2 (j := k * 2 + 1) (by omega)
      have hz1 := ho2.frozenAt (k * 2 + 1)
      have HS := Lib.hid (own_setCells [.slice a0' (nth l k).pre.length c0', .slice a1' (nth l k).post.length c1'] _ _ (k * 2) ho2)
      have HN : Hid (Row tTr (setCells w2 w.heap.size (k * 2) [.slice a0' (nth l k).pre.length c0', .slice a1' (nth l k).post.length c1']) (l.take (k + 1)) (bss ++ [bs]) ((setRow xs (k * 2) [.slice a0' (nth l k).pre.length c0', .slice a1' (nth l k).post.length c1']).take ((k + 1) * 2))) :=
        Lib.hid (Row.store hlt HW.out.1 (HX.out.ext hx) hrep (fun hm => by have := hfb.2 _ hm; omega) (fun hm => by have := hin _ hm; omega))
      have HF := Lib.hid ((hfb.snoc hx hnd (fun k hk => ⟨(hin k hk).1, (hin k hk).2.2⟩) (by omega) (Nat.le_refl _)).keep (w' := setCells w2 w.heap.size (k * 2) [.slice a0' (nth l k).pre.length c0', .slice a1' (nth l k).post.length c1']) (fun j hj => heap_setCells (by omega) _ _ _))
      have HXX := Lib.hid (Ext.setCells (Nat.le_refl w.heap.size) [.slice a0' (nth l k).pre.length c0', .slice a1' (nth l k).post.length c1'] (k * 2) hx2)
      have HE := Lib.hid (show w.heap.size < w2.heap.size by omega)
      clear hin hrep hnd ho2 hfb hx hs2'
      go_wp2
      go_roundw
      case rel => exact ⟨k + 1, _, _, by omega, by go_num, HS.out.1, HN.out, HF.out, HXX.out, by simpa using HE.out⟩
      case measure => simp [intOf]; omega
    · obtain rfl : k = l.length := by omega
      have HX := Lib.hid hrow
      have HW := Lib.hid hown
      clear hrow hown
      go_wp2
      go_ret
      refine ⟨_, _, rfl, ?_, hb⟩
      have hx : Row tTr wr l bss xs := by
        have := HX.out
        have e2 : xs.take (l.length * 2) = xs := List.take_of_length_le (by rw [HW.out.1]; exact Nat.le_refl _)
        rwa [List.take_length, e2] at this
      exact Fr.of_own HW.out hx (Nat.le_refl _) (hfb.mono (by omega)) (fun b' hb' hm => by simp only [Value.ownBlock, Option.some.injEq] at hb'; have := hfb.2 _ hm; omega)

set_option maxHeartbeats 1600000 in
theorem toSignal_c (w : World) (x : Sig) (h : tSig.R w x [.string x.name, .int .i64 x.kind]) (_ : szSig x ≤ 1048576) :
    Calls Tryd.prog 51 #[.agg #[.string x.name, .int .i64 x.kind]] w fun e w' => e = .returned (.agg #[.string x.name, .int .i64 x.kind]) ∧ Fr tSig w.heap.size w'.heap.size w' x [.string x.name, .int .i64 x.kind] ∧ Ext w w' := by
  obtain ⟨h_name, h_kind⟩ := R_Sig.1 h
  clear h
  have H_name := Lib.hid h_name
  clear h_name
  have H_kind := Lib.hid h_kind
  clear h_kind
  go_enter Tryd.func51, Tryd.ntmps51
  go_wp2
  refine bodyPost_ret (v := .agg #[.string x.name, .int .i64 x.kind]) (by simp [results, Tryd.results51, go_sem]) rfl ⟨rfl, ?_, (by repeat (first | with_reducible exact Ext.refl _ | with_reducible exact Ext.refl _ | refine Ext.setCell ?_ (by (try simp only []); omega) _ | refine Ext.alloc ?_ _))⟩
  try simp only [World.size_alloc]
  try simp only [World.size_setCell]
  refine Fr.iso ?_
  exact Fr.pair (cs := [.string x.name]) (ds := [.int .i64 x.kind]) (lo := w.heap.size) (mid := w.heap.size) (hi := w.heap.size + 1 + 1 + 1) (fr_str (R_str.1 H_name.out).2) ((fr_int (R_int.1 H_kind.out).2)) (by omega) (by omega)

theorem info_Sig : (Tryd.prog.info? 83).map (fun i => (i.zero, i.size, i.bytes)) = some (some (.agg #[.string ⟨#[]⟩, .int .i64 0]), 2, 24) := by kernel_rfl

set_option maxHeartbeats 400000 in
theorem toSignalS_c (w : World) (a : Option Addr) (c : Nat) (l : List Sig) (h : (tSl tSig).R w l [.slice a l.length c]) (hz : szSigs l ≤ 1048576) :
    Calls Tryd.prog 25 #[.slice a l.length c] w fun e w' => ∃ a' c', e = .returned (.slice a' l.length c') ∧ Fr (tSl tSig) w.heap.size w'.heap.size w' l [.slice a' l.length c'] ∧ Ext w w' := by
  obtain ⟨_, _, _, _, hs⟩ := R_sl.1 h
  have hl : l.length ≤ 1048576 := by unfold szSigs at hz; omega
  obtain ⟨i0, hi, hz0, hz1, hz2⟩ := info_parts info_Sig
  have hs1 : i0.bytes * l.length ≤ 281474976710656 := by rw [hz2]; omega
  have hs2 : l.length ≤ maxLen := by unfold maxLen; omega
  have HA := Lib.hid hi
  have HB := Lib.hid hz0
  have HC := Lib.hid hz1
  clear hi hz0 hz1 hz2 h
  have HZ : Hid (∀ k, k < l.length → szSig (nth l k) ≤ 1048576) := Lib.hid (fun k hk => by have := sum_nth_le l (fun x => szSig x) hk; unfold szSigs at hz; omega)
  go_enter Tryd.func25, Tryd.ntmps25
  go_wp2_with (at_make; refine wpList_make_full _ rfl _ _ 35 rfl w.heap.size 83 i0 (.agg #[.string ⟨#[]⟩, .int .i64 0]) 2 Tryd.underlying35 HA.out HB.out HC.out _ _ _ _ l.length rfl rfl rfl rfl hs1 hs2 (Nat.le_refl _) ?_; intro w1 hown hgrow)
  have hb1 : Ext w w1 := (Ext.refl _).grown hgrow
  have hw1 : w.heap.size < w1.heap.size := (hown.lt _ rfl).2
  have HO := Lib.hid hown
  clear hown hgrow
  go_loopw [4] (fun i wr => ∃ k : Nat, ∃ xs bss, k ≤ l.length ∧ i = .int .i64 k ∧ wr.ownsRow w.heap.size 83 2 (.slice (some ⟨w.heap.size, 0, none⟩) l.length l.length) l.length xs ∧ Row tSig wr (l.take k) bss (xs.take (k * 2)) ∧ FrB (w.heap.size + 1) wr bss ∧ Ext w wr ∧ w.heap.size < wr.heap.size) (fun i _ => l.length - (intOf i).toNat)
  case atStart => exact ⟨0, _, [], Nat.zero_le _, rfl, by simpa using HO.out, by simpa using Row.nil _, FrB.nil _ _, hb1, hw1⟩
  case round =>
    clear hb1 HO hw1
    obtain ⟨k, xs, bss, hk, rfl, hown, hrow, hfb, hb, hgs⟩ := hrel
    by_cases hlt : k < l.length
    · obtain ⟨b, o, rfl, hbs, hel⟩ := hs.get (by omega)
      obtain ⟨_, hc0, hc1, hR⟩ := at_Sig ((hel k hlt).ext hb hbs)
      simp only [show tSig.n = 2 from rfl] at hc0 hc1
      clear hel
      have HX := Lib.hid hrow
      have HW := Lib.hid hown
      have HR := Lib.hid hR
      clear hrow hown hR
      go_wp2_with fail
      refine (toSignal_c _ _ HR.out (HZ.out k hlt)).mono ?_
      rintro e w2 ⟨rfl, hf, hx⟩
      have hx2 := hb.trans hx
      have ho2 := ownsRow_ext HW.out hx
      obtain ⟨bs, hrep, hnd, hin⟩ := hf
      have hs2' := hx.size
      obtain ⟨u0, hg0⟩ := own_cell ho2 (j := k * 2) (by omega)
      have hz0 := ho2.frozenAt (k * 2)
      obtain ⟨u1, hg1⟩ := own_cell ho2 (j := k * 2 + 1) (by omega)
      have hz1 := ho2.frozenAt (k * 2 + 1)
      have HS := Lib.hid (own_setCells [.string (nth l k).name, .int .i64 (nth l k).kind] _ _ (k * 2) ho2)
      have HN : Hid (Row tSig (setCells w2 w.heap.size (k * 2) [.string (nth l k).name, .int .i64 (nth l k).kind]) (l.take (k + 1)) (bss ++ [bs]) ((setRow xs (k * 2) [.string (nth l k).name, .int .i64 (nth l k).kind]).take ((k + 1) * 2))) :=
        Lib.hid (Row.store hlt HW.out.1 (HX.out.ext hx) hrep (fun hm => by have := hfb.2 _ hm; omega) (fun hm => by have := hin _ hm; omega))
      have HF := Lib.hid ((hfb.snoc hx hnd (fun k hk => ⟨(hin k hk).1, (hin k hk).2.2⟩) (by omega) (Nat.le_refl _)).keep (w' := setCells w2 w.heap.size (k * 2) [.string (nth l k).name, .int .i64 (nth l k).kind]) (fun j hj => heap_setCells (by omega) _ _ _))
      have HXX := Lib.hid (Ext.setCells (Nat.le_refl w.heap.size) [.string (nth l k).name, .int .i64 (nth l k).kind] (k * 2) hx2)
      have HE := Lib.hid (show w.heap.size < w2.heap.size by omega)
      clear hin hrep hnd ho2 hfb hx hs2'
      go_wp2
      go_roundw
      case rel => exact ⟨k + 1, _, _, by omega, by go_num, HS.out.1, HN.out, HF.out, HXX.out, by simpa using HE.out⟩
      case measure => simp [intOf]; omega
    · obtain rfl : k = l.length := by omega
      have HX := Lib.hid hrow
      have HW := Lib.hid hown
      clear hrow hown
      go_wp2
      go_ret
      refine ⟨_, _, rfl, ?_, hb⟩
      have hx : Row tSig wr l bss xs := by
        have := HX.out
        have e2 : xs.take (l.length * 2) = xs := List.take_of_length_le (by rw [HW.out.1]; exact Nat.le_refl _)
        rwa [List.take_length, e2] at this
      exact Fr.of_own HW.out hx (Nat.le_refl _) (hfb.mono (by omega)) (fun b' hb' hm => by simp only [Value.ownBlock, Option.some.injEq] at hb'; have := hfb.2 _ hm; omega)

set_option maxHeartbeats 1600000 in
theorem toLabel_c (w : World) (x : Lab) (h : tLab.R w x [.int .i64 x.sig, .bool x.up]) :
    Calls Tryd.prog 52 #[.agg #[.int .i64 x.sig, .bool x.up]] w fun e w' => e = .returned (.agg #[.int .i64 x.sig, .bool x.up]) ∧ Fr tLab w.heap.size w'.heap.size w' x [.int .i64 x.sig, .bool x.up] ∧ Ext w w' := by
  obtain ⟨h_sig, h_up⟩ := R_Lab.1 h
  clear h
  have H_sig := Lib.hid h_sig
  clear h_sig
  have H_up := Lib.hid h_up
  clear h_up
  go_enter Tryd.func52, Tryd.ntmps52
  go_wp2
  refine bodyPost_ret (v := .agg #[.int .i64 x.sig, .bool x.up]) (by simp [results, Tryd.results52, go_sem]) rfl ⟨rfl, ?_, (by repeat (first | with_reducible exact Ext.refl _ | with_reducible exact Ext.refl _ | refine Ext.setCell ?_ (by (try simp only []); omega) _ | refine Ext.alloc ?_ _))⟩
  try simp only [World.size_alloc]
  try simp only [World.size_setCell]
  refine Fr.iso ?_
  exact Fr.pair (cs := [.int .i64 x.sig]) (ds := [.bool x.up]) (lo := w.heap.size) (mid := w.heap.size) (hi := w.heap.size + 1 + 1 + 1) (fr_int (R_int.1 H_sig.out).2) (fr_bool) (by omega) (by omega)

theorem info_Lab : (Tryd.prog.info? 66).map (fun i => (i.zero, i.size, i.bytes)) = some (some (.agg #[.int .i64 0, .bool false]), 2, 16) := by kernel_rfl

set_option maxHeartbeats 400000 in
theorem toLabelS_c (w : World) (a : Option Addr) (c : Nat) (l : List Lab) (h : (tSl tLab).R w l [.slice a l.length c]) (hz : szLabs l ≤ 1048576) :
    Calls Tryd.prog 26 #[.slice a l.length c] w fun e w' => ∃ a' c', e = .returned (.slice a' l.length c') ∧ Fr (tSl tLab) w.heap.size w'.heap.size w' l [.slice a' l.length c'] ∧ Ext w w' := by
  obtain ⟨_, _, _, _, hs⟩ := R_sl.1 h
  have hl : l.length ≤ 1048576 := by unfold szLabs at hz; omega
  obtain ⟨i0, hi, hz0, hz1, hz2⟩ := info_parts info_Lab
  have hs1 : i0.bytes * l.length ≤ 281474976710656 := by rw [hz2]; omega
  have hs2 : l.length ≤ maxLen := by unfold maxLen; omega
  have HA := Lib.hid hi
  have HB := Lib.hid hz0
  have HC := Lib.hid hz1
  clear hi hz0 hz1 hz2 h
  go_enter Tryd.func26, Tryd.ntmps26
  go_wp2_with (at_make; refine wpList_make_full _ rfl _ _ 36 rfl w.heap.size 66 i0 (.agg #[.int .i64 0, .bool false]) 2 Tryd.underlying36 HA.out HB.out HC.out _ _ _ _ l.length rfl rfl rfl rfl hs1 hs2 (Nat.le_refl _) ?_; intro w1 hown hgrow)
  have hb1 : Ext w w1 := (Ext.refl _).grown hgrow
  have hw1 : w.heap.size < w1.heap.size := (hown.lt _ rfl).2
  have HO := Lib.hid hown
  clear hown hgrow
  go_loopw [4] (fun i wr => ∃ k : Nat, ∃ xs bss, k ≤ l.length ∧ i = .int .i64 k ∧ wr.ownsRow w.heap.size 66 2 (.slice (some ⟨w.heap.size, 0, none⟩) l.length l.length) l.length xs ∧ Row tLab wr (l.take k) bss (xs.take (k * 2)) ∧ FrB (w.heap.size + 1) wr bss ∧ Ext w wr ∧ w.heap.size < wr.heap.size) (fun i _ => l.length - (intOf i).toNat)
  case atStart => exact ⟨0, _, [], Nat.zero_le _, rfl, by simpa using HO.out, by simpa using Row.nil _, FrB.nil _ _, hb1, hw1⟩
  case round =>
    clear hb1 HO hw1
    obtain ⟨k, xs, bss, hk, rfl, hown, hrow, hfb, hb, hgs⟩ := hrel
    by_cases hlt : k < l.length
    · obtain ⟨b, o, rfl, hbs, hel⟩ := hs.get (by omega)
      obtain ⟨_, hc0, hc1, hR⟩ := at_Lab ((hel k hlt).ext hb hbs)
      simp only [show tLab.n = 2 from rfl] at hc0 hc1
      clear hel
      have HX := Lib.hid hrow
      have HW := Lib.hid hown
      have HR := Lib.hid hR
      clear hrow hown hR
      go_wp2_with fail
      refine (toLabel_c _ _ HR.out).mono ?_
      rintro e w2 ⟨rfl, hf, hx⟩
      have hx2 := hb.trans hx
      have ho2 := ownsRow_ext HW.out hx
      obtain ⟨bs, hrep, hnd, hin⟩ := hf
      have hs2' := hx.size
      obtain ⟨u0, hg0⟩ := own_cell ho2 (j := k * 2) (by omega)
      have hz0 := ho2.frozenAt (k * 2)
      obtain ⟨u1, hg1⟩ := own_cell ho2 (j := k * 2 + 1) (by omega)
      have hz1 := ho2.frozenAt (k * 2 + 1)
      have HS := Lib.hid (own_setCells [.int .i64 (nth l k).sig, .bool (nth l k).up] _ _ (k * 2) ho2)
      have HN : Hid (Row tLab (setCells w2 w.heap.size (k * 2) [.int .i64 (nth l k).sig, .bool (nth l k).up]) (l.take (k + 1)) (bss ++ [bs]) ((setRow xs (k * 2) [.int .i64 (nth l k).sig, .bool (nth l k).up]).take ((k + 1) * 2))) :=
        Lib.hid (Row.store hlt HW.out.1 (HX.out.ext hx) hrep (fun hm => by have := hfb.2 _ hm; omega) (fun hm => by have := hin _ hm; omega))
      have HF := Lib.hid ((hfb.snoc hx hnd (fun k hk => ⟨(hin k hk).1, (hin k hk).2.2⟩) (by omega) (Nat.le_refl _)).keep (w' := setCells w2 w.heap.size (k * 2) [.int .i64 (nth l k).sig, .bool (nth l k).up]) (fun j hj => heap_setCells (by omega) _ _ _))
      have HXX := Lib.hid (Ext.setCells (Nat.le_refl w.heap.size) [.int .i64 (nth l k).sig, .bool (nth l k).up] (k * 2) hx2)
      have HE := Lib.hid (show w.heap.size < w2.heap.size by omega)
      clear hin hrep hnd ho2 hfb hx hs2'
      go_wp2
      go_roundw
      case rel => exact ⟨k + 1, _, _, by omega, by go_num, HS.out.1, HN.out, HF.out, HXX.out, by simpa using HE.out⟩
      case measure => simp [intOf]; omega
    · obtain rfl : k = l.length := by omega
      have HX := Lib.hid hrow
      have HW := Lib.hid hown
      clear hrow hown
      go_wp2
      go_ret
      refine ⟨_, _, rfl, ?_, hb⟩
      have hx : Row tLab wr l bss xs := by
        have := HX.out
        have e2 : xs.take (l.length * 2) = xs := List.take_of_length_le (by rw [HW.out.1]; exact Nat.le_refl _)
        rwa [List.take_length, e2] at this
      exact Fr.of_own HW.out hx (Nat.le_refl _) (hfb.mono (by omega)) (fun b' hb' hm => by simp only [Value.ownBlock, Option.some.injEq] at hb'; have := hfb.2 _ hm; omega)

set_option maxHeartbeats 1600000 in
theorem toNet_c (w : World) (a1 : Option Addr) (c1 : Nat) (x : NetD) (h : tNetD.R w x [.int .i64 x.places, .slice a1 x.trs.length c1]) (hz : szNetD x ≤ 1048576) :
    Calls Tryd.prog 24 #[.agg #[.int .i64 x.places, .slice a1 x.trs.length c1]] w fun e w' => ∃ a1' c1', e = .returned (.agg #[.int .i64 x.places, .slice a1' x.trs.length c1']) ∧ Fr tNetD w.heap.size w'.heap.size w' x [.int .i64 x.places, .slice a1' x.trs.length c1'] ∧ Ext w w' := by
  obtain ⟨h_places, h_trs⟩ := R_NetD.1 h
  clear h
  have H_places := Lib.hid h_places
  clear h_places
  have hz_trs : szTrs x.trs ≤ 1048576 := by unfold szNetD at hz; omega
  have H_trs := Lib.hid h_trs
  clear h_trs
  clear hz
  go_enter Tryd.func24, Tryd.ntmps24
  go_wp2_with fail
  refine (toTransitionS_c _ _ _ _ (Ty.R.ext H_trs.out (by repeat (first | with_reducible exact Ext.refl _ | with_reducible exact Ext.refl _ | refine Ext.setCell ?_ (by (try simp only []); omega) _ | refine Ext.alloc ?_ _))) hz_trs).mono ?_
  rintro e w1 ⟨a1', c1', rfl, hf0, hx0⟩
  have hE1 : Ext w w1 := Ext.trans (by repeat (first | with_reducible exact Ext.refl _ | with_reducible exact Ext.refl _ | refine Ext.setCell ?_ (by (try simp only []); omega) _ | refine Ext.alloc ?_ _)) hx0
  obtain ⟨hk0, hq0⟩ := hx0.cells
  have hs0 := hx0.size
  try simp only [World.size_alloc] at hk0 hq0 hs0 hf0
  try simp only [World.size_setCell] at hk0 hq0 hs0 hf0
  have hl00 : w.heap.size < w1.heap.size := by omega
  have hl01 : w.heap.size + 1 < w1.heap.size := by omega
  have hl02 : w.heap.size + 1 + 1 < w1.heap.size := by omega
  go_wp2
  refine bodyPost_ret (v := .agg #[.int .i64 x.places, .slice a1' x.trs.length c1']) (by simp [results, Tryd.results24, go_sem, hk0, hl00, hl01, hl02]) rfl ⟨_, _, rfl, ?_, (by repeat (first | with_reducible exact hE1 | with_reducible exact Ext.refl _ | refine Ext.setCell ?_ (by (try simp only []); omega) _ | refine Ext.alloc ?_ _))⟩
  try simp only [World.size_alloc]
  try simp only [World.size_setCell]
  refine Fr.iso ?_
  exact Fr.pair (cs := [.int .i64 x.places]) (ds := [.slice a1' x.trs.length c1']) (lo := w.heap.size) (mid := w.heap.size) (hi := w1.heap.size) (fr_int (R_int.1 H_places.out).2) ((Fr.low (lo := w.heap.size + 1 + 1 + 1) (lo' := w.heap.size) (by repeat (first | with_reducible exact hf0 | refine Fr.setCell ?_ (Or.inl (by (try simp only []); omega)) _)) (by omega))) (by omega) (by omega)

set_option maxHeartbeats 1600000 in
theorem toSTG_c (w : World) (a1 : Option Addr) (c1 : Nat) (a2 : Option Addr) (c2 : Nat) (a3 : Option Addr) (c3 : Nat) (x : Stg) (h : tStg.R w x [.int .i64 x.net.places, .slice a1 x.net.trs.length c1, .slice a2 x.signals.length c2, .slice a3 x.labels.length c3, .string x.start]) (hz : szStg x ≤ 1048576) :
    Calls Tryd.prog 9 #[.agg #[.int .i64 x.net.places, .slice a1 x.net.trs.length c1, .slice a2 x.signals.length c2, .slice a3 x.labels.length c3, .string x.start]] w fun e w' => ∃ a1' c1' a2' c2' a3' c3', e = .returned (.agg #[.int .i64 x.net.places, .slice a1' x.net.trs.length c1', .slice a2' x.signals.length c2', .slice a3' x.labels.length c3', .string x.start]) ∧ Fr tStg w.heap.size w'.heap.size w' x [.int .i64 x.net.places, .slice a1' x.net.trs.length c1', .slice a2' x.signals.length c2', .slice a3' x.labels.length c3', .string x.start] ∧ Ext w w' := by
  obtain ⟨h_net, h_signals, h_labels, h_start⟩ := R_Stg.1 h
  clear h
  have hz_net : szNetD x.net ≤ 1048576 := by unfold szStg at hz; omega
  have H_net := Lib.hid h_net
  clear h_net
  have hz_signals : szSigs x.signals ≤ 1048576 := by unfold szStg at hz; omega
  have H_signals := Lib.hid h_signals
  clear h_signals
  have hz_labels : szLabs x.labels ≤ 1048576 := by unfold szStg at hz; omega
  have H_labels := Lib.hid h_labels
  clear h_labels
  have H_start := Lib.hid h_start
  clear h_start
  clear hz
  go_enter Tryd.func9, Tryd.ntmps9
  go_wp2_with fail
  refine (toNet_c _ _ _ _ (Ty.R.ext H_net.out (by repeat (first | with_reducible exact Ext.refl _ | with_reducible exact Ext.refl _ | refine Ext.setCell ?_ (by (try simp only []); omega) _ | refine Ext.alloc ?_ _))) hz_net).mono ?_
  rintro e w1 ⟨a1', c1', rfl, hf0, hx0⟩
  have hE1 : Ext w w1 := Ext.trans (by repeat (first | with_reducible exact Ext.refl _ | with_reducible exact Ext.refl _ | refine Ext.setCell ?_ (by (try simp only []); omega) _ | refine Ext.alloc ?_ _)) hx0
  obtain ⟨hk0, hq0⟩ := hx0.cells
  have hs0 := hx0.size
  try simp only [World.size_alloc] at hk0 hq0 hs0 hf0
  try simp only [World.size_setCell] at hk0 hq0 hs0 hf0
  have hl00 : w.heap.size < w1.heap.size := by omega
  have hl01 : w.heap.size + 1 < w1.heap.size := by omega
  have hl02 : w.heap.size + 1 + 1 < w1.heap.size := by omega
  go_wp2_with fail
  refine (toSignalS_c _ _ _ _ (Ty.R.ext H_signals.out (by repeat (first | with_reducible exact hE1 | with_reducible exact Ext.refl _ | refine Ext.setCell ?_ (by (try simp only []); omega) _ | refine Ext.alloc ?_ _))) hz_signals).mono ?_
  rintro e w2 ⟨a2', c2', rfl, hf1, hx1⟩
  have hE2 : Ext w w2 := Ext.trans (by repeat (first | with_reducible exact hE1 | with_reducible exact Ext.refl _ | refine Ext.setCell ?_ (by (try simp only []); omega) _ | refine Ext.alloc ?_ _)) hx1
  obtain ⟨hk1, hq1⟩ := hx1.cells
  have hs1 := hx1.size
  try simp only [World.size_alloc] at hk1 hq1 hs1 hf1
  try simp only [World.size_setCell] at hk1 hq1 hs1 hf1
  have hl10 : w.heap.size < w2.heap.size := by omega
  have hl11 : w.heap.size + 1 < w2.heap.size := by omega
  have hl12 : w.heap.size + 1 + 1 < w2.heap.size := by omega
  go_wp2_with fail
  refine (toLabelS_c _ _ _ _ (Ty.R.ext H_labels.out (by repeat (first | with_reducible exact hE2 | with_reducible exact Ext.refl _ | refine Ext.setCell ?_ (by (try simp only []); omega) _ | refine Ext.alloc ?_ _))) hz_labels).mono ?_
  rintro e w3 ⟨a3', c3', rfl, hf2, hx2⟩
  have hE3 : Ext w w3 := Ext.trans (by repeat (first | with_reducible exact hE2 | with_reducible exact Ext.refl _ | refine Ext.setCell ?_ (by (try simp only []); omega) _ | refine Ext.alloc ?_ _)) hx2
  obtain ⟨hk2, hq2⟩ := hx2.cells
  have hs2 := hx2.size
  try simp only [World.size_alloc] at hk2 hq2 hs2 hf2
  try simp only [World.size_setCell] at hk2 hq2 hs2 hf2
  have hl20 : w.heap.size < w3.heap.size := by omega
  have hl21 : w.heap.size + 1 < w3.heap.size := by omega
  have hl22 : w.heap.size + 1 + 1 < w3.heap.size := by omega
  go_wp2
  refine bodyPost_ret (v := .agg #[.int .i64 x.net.places, .slice a1' x.net.trs.length c1', .slice a2' x.signals.length c2', .slice a3' x.labels.length c3', .string x.start]) (by simp [results, Tryd.results9, go_sem, hk0, hk1, hk2, hl00, hl01, hl02, hl10, hl11, hl12, hl20, hl21, hl22]) rfl ⟨_, _, _, _, _, _, rfl, ?_, (by repeat (first | with_reducible exact hE3 | with_reducible exact Ext.refl _ | refine Ext.setCell ?_ (by (try simp only []); omega) _ | refine Ext.alloc ?_ _))⟩
  try simp only [World.size_alloc]
  try simp only [World.size_setCell]
  refine Fr.iso ?_
  exact Fr.pair (cs := [.int .i64 x.net.places, .slice a1' x.net.trs.length c1']) (ds := [.slice a2' x.signals.length c2', .slice a3' x.labels.length c3', .string x.start]) (lo := w.heap.size) (mid := w1.heap.size) (hi := w3.heap.size) (Fr.low (lo := w.heap.size + 1 + 1 + 1) (lo' := w.heap.size) (by repeat (first | with_reducible exact hf0 | refine Fr.setCell ?_ (Or.inl (by (try simp only []); omega)) _ | refine Fr.ext ?_ hx1 | refine Fr.ext ?_ hx2)) (by omega)) (Fr.pair (cs := [.slice a2' x.signals.length c2']) (ds := [.slice a3' x.labels.length c3', .string x.start]) (lo := w1.heap.size) (mid := w2.heap.size) (hi := w3.heap.size) (Fr.low (lo := w1.heap.size) (lo' := w1.heap.size) (by repeat (first | with_reducible exact hf1 | refine Fr.setCell ?_ (Or.inl (by (try simp only []); omega)) _ | refine Fr.ext ?_ hx2)) (by omega)) (Fr.pair (cs := [.slice a3' x.labels.length c3']) (ds := [.string x.start]) (lo := w2.heap.size) (mid := w3.heap.size) (hi := w3.heap.size) (Fr.low (lo := w2.heap.size) (lo' := w2.heap.size) (by repeat (first | with_reducible exact hf2 | refine Fr.setCell ?_ (Or.inl (by (try simp only []); omega)) _)) (by omega)) ((fr_str (R_str.1 H_start.out).2)) (by omega) (by omega)) (by omega) (by omega)) (by omega) (by omega)
end Go.Proofs.YtkegeacjalechaaDoor
