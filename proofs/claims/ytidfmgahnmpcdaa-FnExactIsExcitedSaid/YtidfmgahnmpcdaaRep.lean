/- bits.Mul and slices.Repeat of one number. No condition. -/
import Derived.Test.YtidfmgahnmpcdaaTo
import Derived.Lib.Mul64
import Derived.Laws.Bits64b
import Derived.Laws.CopyOwn
import Derived.Laws.OwnMore
set_option linter.unusedSimpArgs false
set_option linter.unusedVariables false
namespace Go.Proofs.Ytidfmgahnmpcdaa
open Go.ChangeShapes Go.WideShapes Go.ChangeAt Go.RowKit Go.Lib

namespace Mul64
theorem maskN (a : Nat) (ha : a < 18446744073709551616) : bits .and .u64 (a : Int) 4294967295 = ((a % 4294967296 : Nat) : Int) := by
  have h := bits_and_u64_nat a 4294967295 ha (by omega)
  have e : a &&& 4294967295 = a % 4294967296 := Nat.and_two_pow_sub_one_eq_mod a 32
  rw [e] at h
  exact h
theorem divN (a : Nat) : (a : Int) / 4294967296 = ((a / 4294967296 : Nat) : Int) := by omega
theorem mulN (a b : Nat) : (a : Int) * (b : Int) = ((a * b : Nat) : Int) := (Int.natCast_mul a b).symm
theorem addN (a b : Nat) : (a : Int) + (b : Int) = ((a + b : Nat) : Int) := (Int.natCast_add a b).symm
theorem wrapN (a : Nat) (ha : a < 18446744073709551616) : IntKind.u64.wrap (a : Int) = (a : Int) := by rw [IntKind.wrap_u64]; omega
theorem wrapM (a : Nat) : IntKind.u64.wrap (a : Int) = ((a % 18446744073709551616 : Nat) : Int) := by rw [IntKind.wrap_u64]; omega
end Mul64

set_option maxHeartbeats 1000000 in
theorem Mul64_c (x y : Nat) (hx : x < 18446744073709551616) (hy : y < 18446744073709551616) (w : World) :
    Calls Try.prog 172 #[.int .u64 x, .int .u64 y] w fun e w' => e = .returned (.tuple #[.int .u64 ((x * y / 18446744073709551616 : Nat) : Int), .int .u64 ((x * y % 18446744073709551616 : Nat) : Int)]) ∧ w' = w := by
  obtain ⟨bd, bt, bw, hhi⟩ := Lib.mul64_hi x y hx hy
  have ba := Lib.half_mul_le (a := x / 4294967296) (b := y / 4294967296) (by omega) (by omega)
  have bb := Lib.half_mul_le (a := x / 4294967296) (b := y % 4294967296) (by omega) (by omega)
  have bc := Lib.half_mul_le (a := x % 4294967296) (b := y / 4294967296) (by omega) (by omega)
  have ba' : x / 4294967296 * (y / 4294967296) < 18446744073709551616 := by omega
  have bb' : x / 4294967296 * (y % 4294967296) < 18446744073709551616 := by omega
  have bc' : x % 4294967296 * (y / 4294967296) < 18446744073709551616 := by omega
  have bh1 : x / 4294967296 * (y / 4294967296) + (x / 4294967296 * (y % 4294967296) + x % 4294967296 * (y % 4294967296) / 4294967296) / 4294967296 < 18446744073709551616 := by omega
  have bh : x / 4294967296 * (y / 4294967296) + (x / 4294967296 * (y % 4294967296) + x % 4294967296 * (y % 4294967296) / 4294967296) / 4294967296 + ((x / 4294967296 * (y % 4294967296) + x % 4294967296 * (y % 4294967296) / 4294967296) % 4294967296 + x % 4294967296 * (y / 4294967296)) / 4294967296 < 18446744073709551616 := by omega
  go_enter Try.func172, Try.ntmps172
  go_wp2
  simp only [Mul64.maskN x hx, Mul64.maskN y hy, Mul64.divN, Mul64.mulN, Mul64.addN, Mul64.wrapN _ bd, Mul64.wrapN _ bb', Mul64.wrapN _ bt, Mul64.maskN _ bt, Mul64.wrapN _ bc', Mul64.wrapN _ bw, Mul64.wrapN _ ba', Mul64.wrapN _ bh1, Mul64.wrapN _ bh, Mul64.wrapM (x * y)]
  rw [hhi]
  go_ret2
  exact ⟨rfl, rfl⟩

theorem Mul_c (x y : Nat) (hx : x < 18446744073709551616) (hy : y < 18446744073709551616) (w : World) :
    Calls Try.prog 168 #[.int .u64 x, .int .u64 y] w fun e w' => e = .returned (.tuple #[.int .u64 ((x * y / 18446744073709551616 : Nat) : Int), .int .u64 ((x * y % 18446744073709551616 : Nat) : Int)]) ∧ w' = w := by
  have c64 := Mul64_c x y hx hy w
  go_enter Try.func168, Try.ntmps168
  go_wp2_with (refine c64.mono ?_; rintro e w' ⟨rfl, hw⟩; rw [hw])
  go_ret2
  exact ⟨rfl, rfl⟩

theorem info_i : (Try.prog.info? 3).map (fun i => (i.zero, i.size, i.bytes)) = some (some (.int .i64 0), 1, 8) := by kernel_rfl

/-- A part of a block of minus ones, copied behind it. -/
theorem copy_m1 {w0 w : World} {g o k n : Nat} {dc sc : Nat} {ad : Addr} {cur : Array Value} {ty : TypeId} (hx : Ext w0 w) (hg0 : w0.heap.size ≤ g) (hg : w.heap[g]? = some (.cells cur 3 (0, 0))) (hn : cur.size = n) (ho : o ≤ n) (hpre : cur.toList.take o = List.replicate o (.int .i64 (-1)))
    (hs : ∀ j, j < k → w.cell? (ad.add j) = some (.int .i64 (-1))) :
    ∃ w' cur', (Builtin.copy_ #[75, 75] ty #[.slice (some ⟨g, o, none⟩) (n - o) dc, .slice (some ad) k sc]).run Try.prog w = .ok (.int .i64 ((min k (n - o) : Nat) : Int)) w' ∧ w'.heap[g]? = some (.cells cur' 3 (0, 0)) ∧ cur'.size = n ∧ cur'.toList.take (o + min k (n - o)) = List.replicate (o + min k (n - o)) (.int .i64 (-1)) ∧ Ext w0 w' := by
  have hr := run_copy_row Try.prog w 75 75 ty 3 g o (n - o) dc ad k sc cur 3 (List.replicate (min k (n - o)) (.int .i64 (-1))) Try.underlying75 (by kernel_rfl) hg (by simp) (fun j v hj => by
    rw [List.getElem?_replicate] at hj
    split at hj
    · simp only [Option.some.injEq] at hj; subst hj; exact hs j (by omega)
    · simp at hj) (by simp; omega) (fun v hv => by rw [List.eq_of_mem_replicate hv]; rfl)
  simp only [List.length_replicate] at hr
  refine ⟨_, _, hr, setRow_heap w g cur _ 3 _ hg, ?_, ?_, ?_⟩
  · simp; omega
  · have h1 : (cur.toList.take o ++ List.replicate (min k (n - o)) (Value.int .i64 (-1))).length = o + min k (n - o) := by simp; omega
    simp only [List.toList_toArray]
    rw [List.take_left' h1, hpre, List.replicate_append_replicate]
  · exact Below.trans hx (below_setRow (Below.refl _ _) hg0 _)

theorem copy_first {w w1 : World} {b o c n : Nat} {xs : List Value} (hown : w1.ownsRow w.heap.size 3 1 (.slice (some ⟨w.heap.size, 0, none⟩) n n) n xs) (hgrow : w.grownBy w1 none) (hc : w.cell? ⟨b, o, none⟩ = some (.int .i64 (-1))) :
    ∃ w2, (Builtin.copy_ #[75, 75] 3 #[.slice (some ⟨w.heap.size, 0, none⟩) n n, .slice (some ⟨b, o, none⟩) 1 c]).run Try.prog w1 = .ok (.int .i64 ((min 1 n : Nat) : Int)) w2 ∧ ∃ cur, w2.heap[w.heap.size]? = some (.cells cur 3 (0, 0)) ∧ cur.size = n ∧ cur.toList.take (min 1 n) = List.replicate (min 1 n) (.int .i64 (-1)) ∧ Ext w w2 := by
  have hb1 : Ext w w1 := (Ext.refl _).grown hgrow
  obtain ⟨hl, ⟨h, _⟩ | ⟨g, cap, cur, hv, hg, hh, c1, c2, c3, c4⟩⟩ := hown
  · cases h
  simp only [Value.slice.injEq, Option.some.injEq, Addr.mk.injEq, and_true, true_and] at hv
  obtain ⟨rfl, rfl⟩ := hv
  have hc1 : w1.cell? ⟨b, o, none⟩ = some (.int .i64 (-1)) := by rw [hb1.cell (lt_of_cell hc)]; exact hc
  obtain ⟨w2, cur2, h1, h2, h3, h4, h5⟩ := copy_m1 (ty := 3) (dc := n) (sc := c) (o := 0) (k := 1) (n := n) (ad := ⟨b, o, none⟩) hb1 (Nat.le_refl _) hh (by omega) (Nat.zero_le _) rfl (fun j hj => by
    have hj0 : j = 0 := by omega
    subst hj0
    simpa [Addr.add] using hc1)
  simp only [Nat.sub_zero, Nat.zero_add] at h1 h4
  exact ⟨w2, h1, cur2, h2, h3, h4, h5⟩

theorem copy_next {w wr : World} {n k : Nat} {cur : Array Value} (hh : wr.heap[w.heap.size]? = some (.cells cur 3 (0, 0))) (hz : cur.size = n) (hk : k < n) (ht : cur.toList.take k = List.replicate k (.int .i64 (-1))) (hx : Ext w wr) :
    ∃ m w2, (Builtin.copy_ #[75, 75] 3 #[.slice (some ⟨w.heap.size, k, none⟩) (n - k) (n - k), .slice (some ⟨w.heap.size, 0, none⟩) k n]).run Try.prog wr = .ok (.int .i64 (m : Nat)) w2 ∧ (k ≤ m ∨ k + m = n) ∧ k + m ≤ n ∧ ∃ cur, w2.heap[w.heap.size]? = some (.cells cur 3 (0, 0)) ∧ cur.size = n ∧ cur.toList.take (k + m) = List.replicate (k + m) (.int .i64 (-1)) ∧ Ext w w2 := by
  obtain ⟨w2, cur2, h1, h2, h3, h4, h5⟩ := copy_m1 (ty := 3) (dc := n - k) (sc := n) (o := k) (k := k) (n := n) (ad := ⟨w.heap.size, 0, none⟩) hx (Nat.le_refl _) hh hz (by omega) ht (fun j hj => by
    have h7 : (cur.toList.take k)[j]? = some (.int .i64 (-1)) := by rw [ht, List.getElem?_replicate, if_pos hj]
    rw [List.getElem?_take, if_pos hj, Array.getElem?_toList] at h7
    have e : (⟨w.heap.size, 0, none⟩ : Addr).add j = ⟨w.heap.size, j, none⟩ := by simp [Addr.add]; try omega
    rw [e]
    simp [World.cell?, hh, h7])
  exact ⟨_, w2, h1, by omega, by omega, cur2, h2, h3, h4, h5⟩

set_option maxRecDepth 30000 in
theorem Repeat_c (w : World) (b o c n : Nat) (hc : w.cell? ⟨b, o, none⟩ = some (.int .i64 (-1))) (hn : n ≤ 300) :
    Calls Try.prog 150 #[.slice (some ⟨b, o, none⟩) 1 c, .int .i64 n] w fun e w' => ∃ v, e = .returned v ∧ w'.ownsRow w.heap.size 3 1 v n (List.replicate n (.int .i64 (-1))) ∧ Ext w w' := by
  have hcm := Mul_c 1 n (by omega) (by omega) w
  rw [show 1 * n / 18446744073709551616 = 0 by omega, show 1 * n % 18446744073709551616 = n by omega] at hcm
  obtain ⟨i0, hi, hz0, hz1, hz2⟩ := info_parts info_i
  have hs1 : i0.bytes * n ≤ 281474976710656 := by rw [hz2]; omega
  have hs2 : n ≤ maxLen := by unfold maxLen; omega
  have HA := Lib.hid hi
  have HB := Lib.hid hz0
  have HC := Lib.hid hz1
  have HCC := Lib.hid hc
  have hb1 : decide ((9223372036854775807 : Int) < (n : Int)) = false := by simp; omega
  clear hi hz0 hz1 hz2 hc
  go_enter Try.func150, Try.ntmps150
  go_wp2_with fail
  refine hcm.mono ?_
  rintro e w' ⟨rfl, rfl⟩
  go_wp2_with (at_make; refine wpList_make_full _ rfl _ _ 75 rfl w'.heap.size 3 i0 (.int .i64 0) 1 Try.underlying75 HA.out HB.out HC.out _ _ _ _ n rfl rfl rfl rfl hs1 hs2 (Nat.le_refl _) ?_; intro w1 hown hgrow; obtain ⟨w2, hrun2, H⟩ := copy_first (n := n) (c := c) hown hgrow HCC.out; have HX := Lib.hid H; clear hown hgrow H)
  have HN : Hid (n ≤ 300) := Lib.hid hn
  clear hs1 hs2 HA HB HC HCC hcm
  go_loopw [8] (fun i wr => ∃ k : Nat, k ≤ n ∧ (n = 0 ∨ 1 ≤ k) ∧ i = .int .i64 k ∧ ∃ cur, wr.heap[w'.heap.size]? = some (.cells cur 3 (0, 0)) ∧ cur.size = n ∧ cur.toList.take k = List.replicate k (.int .i64 (-1)) ∧ Ext w' wr) (fun i _ => n - (intOf i).toNat)
  case atStart =>
    obtain ⟨cur, h1, h2, h3, h4⟩ := HX.out
    exact ⟨min 1 n, by omega, by omega, rfl, cur, h1, h2, h3, h4⟩
  case round =>
    clear HX hrun2
    obtain ⟨k, hk, hk1, rfl, cur, h1, h2, h3, h4⟩ := hrel
    by_cases hlt : k < n
    · obtain ⟨m, w3, hrun3, hm1, hm2, H⟩ := copy_next (wr := wr.drew) h1 h2 hlt h3 h4.drew
      have HX := Lib.hid H
      clear H h1 h2 h3 h4
      have hsum : IntKind.i64.wrap ((k : Int) + (m : Int)) = ((k + m : Nat) : Int) := by
        rw [IntKind.wrap_i64]; omega
      go_wp2
      go_region_with (fail)
      simp only [Act.put, List.getElem_toArray, List.getElem_cons_succ, List.getElem_cons_zero, hsum, List.setIfInBounds_toArray, List.set]
      go_wp2
      go_roundw
      case rel =>
        obtain ⟨cur, h1, h2, h3, h4⟩ := HX.out
        exact ⟨k + m, by omega, by omega, rfl, cur, h1, h2, h3, h4⟩
      case measure => simp [intOf]; omega
    · obtain rfl : k = n := by omega
      have HH := Lib.hid h1
      have HZ := Lib.hid h2
      have HT := Lib.hid h3
      clear h1 h2 h3
      go_wp2
      go_ret
      refine ⟨_, rfl, ⟨by simp, Or.inr ⟨_, _, _, rfl, Nat.le_refl _, HH.out, Nat.le_refl _, by unfold maxLen; have := HN.out; omega, by have := HZ.out; omega, ?_⟩⟩, h4⟩
      have := HT.out; simpa using this
end Go.Proofs.Ytidfmgahnmpcdaa
