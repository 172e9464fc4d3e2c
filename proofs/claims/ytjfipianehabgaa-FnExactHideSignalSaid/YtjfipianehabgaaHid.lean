/- slices.Delete over []Signal. No condition. Signals hidden: what the program's and the reference's functions hand back. No condition. -/
import Derived.Test.YtjfipianehabgaaMv
import Derived.Test.YtjfipianehabgaaTab
import Derived.Test.YtjfipianehabgaaTo
import Derived.Test.YtjfipianehabgaaNet
import Derived.Deep.RegionLaw
import Derived.Lib.SliceRun
import Derived.Laws.CopyRow
import Derived.ArgAppend
import Derived.Shelf.RegionOpenPlain
import Derived.Test.YtjfipianehabgaaMir
set_option linter.unusedSimpArgs false
set_option linter.unusedVariables false
set_option maxHeartbeats 2000000
namespace Go.Proofs.Ytjfipianehabgaa
open Go.ChangeShapes Go.WideShapes Go.ChangeAt Go.RowKit

theorem setCells_row {P : Program} {w : World} {g o : Nat} {T : TypeId} {cur : Array Value} {vs : List Value} (hh : w.heap[g]? = some (.cells cur T (0, 0))) (hb : o + vs.length ≤ cur.size) (h1 : ∀ v ∈ vs, v.oneCell' = true) :
    w.setCells g o vs = w.setRow g (cur.toList.take o ++ vs ++ cur.toList.drop (o + vs.length)).toArray := by
  have a := run_storeCells_at P g o T vs 0 cur w hh (by omega) h1
  have b := run_storeCells_cells (P := P) g o vs 0 w (fun j hj => by simp [World.cell?, hh]; omega) (fun j hj => by simp [World.frozen?, hh]) h1
  rw [a] at b
  simp only [Nat.add_zero, Result.ok.injEq, true_and] at b
  exact b.symm
theorem run_clear_row {P : Program} {w : World} {t e ty : TypeId} {z : Value} {m : Nat} (ht : P.underlying t = some (.slice e)) (hv : ∀ w, (zeroValue e).run P w = .ok z w) (hz : z.cells.size = m) (h1 : ∀ v ∈ z.cells.toList, v.oneCell' = true) {g o n c : Nat} {T : TypeId} {cur : Array Value} (hn : 0 < n) (hm : 0 < m) (hh : w.heap[g]? = some (.cells cur T (0, 0))) (hb : o + n * m ≤ cur.size) :
    (Builtin.clear_ #[t] ty #[.slice (some ⟨g, o, none⟩) n c]).run P w = .ok (.tuple #[]) (w.setRow g (cur.toList.take o ++ (List.replicate n z.cells.toList).flatten ++ cur.toList.drop (o + n * m)).toArray) := by
  have hmade : (Builtin.zeroCells z.cells n).toList = (List.replicate n z.cells.toList).flatten := by
    have := madeCells_eq z.cells (by omega) n
    exact this
  have hvl : ((List.replicate n z.cells.toList).flatten).length = n * m := by simp [hz]
  have hst := run_storeCells_at P g o T ((List.replicate n z.cells.toList).flatten) 0 cur w hh (by omega) (fun v hv => by
    obtain ⟨l, hl, hv⟩ := List.mem_flatten.1 hv
    rw [List.eq_of_mem_replicate hl] at hv; exact h1 v hv)
  simp only [Nat.add_zero, hvl] at hst
  obtain ⟨q, rfl⟩ : ∃ q, n = q + 1 := ⟨n - 1, by omega⟩
  simp [Builtin.clear_, run_underlying ht, hv, hmade, hst]

theorem zero_Sig (w : World) : (zeroValue 175).run Try.prog w = .ok (.agg #[.string ByteArray.empty, .int .i64 0]) w := Try.zeroValue175 w
theorem infoD_Sig : (Try.prog.info? 175).map (fun i => (i.zero, i.size, i.bytes)) = some (some (.agg #[.string ByteArray.empty, .int .i64 0]), 2, 24) := by kernel_rfl

set_option maxHeartbeats 4000000 in
set_option maxRecDepth 100000 in
theorem DeleteS_c (w : World) (g cap n i j : Nat) (cur : Array Value) (hh : w.heap[g]? = some (.cells cur 175 (0, 0))) (hsz : cur.size = cap * 2) (hn : n ≤ cap) (hcap : cap ≤ 9223372036854775807) (h1 : ∀ v ∈ cur.toList.take (n * 2), v.oneCell' = true) (hij : i < j) (hj : j ≤ n) :
    Calls Try.prog 134 #[.slice (some ⟨g, 0, none⟩) n cap, .int .i64 i, .int .i64 j] w fun e w' => e = .returned (.slice (some ⟨g, 0, none⟩) (n - (j - i)) cap) ∧ w'.heap.size = w.heap.size ∧ w'.os = w.os ∧ w'.tape = w.tape ∧ w'.output = w.output ∧ (∀ k, k ≠ g → w'.heap[k]? = w.heap[k]?) ∧
      ∃ cur' : Array Value, w'.heap[g]? = some (.cells cur' 175 (0, 0)) ∧ cur'.size = cur.size ∧ cur'.toList.take ((n - (j - i)) * 2) = cur.toList.take (i * 2) ++ (cur.toList.take (n * 2)).drop (j * 2) := by
  have hmix : Try.prog.follows .mixedOrders = true := mixed
  obtain ⟨i0, hi, hz0, hz1, hz2⟩ := info_parts infoD_Sig
  obtain ⟨news, hnews⟩ : ∃ news, news = (cur.toList.take (n * 2)).drop (j * 2) := ⟨_, rfl⟩
  have hcl : cur.toList.length = cap * 2 := by rw [Array.length_toList]; exact hsz
  have hlen : news.length = (n - j) * 2 := by rw [hnews, List.length_drop, List.length_take]; omega
  have hget : ∀ t u, news[t]? = some u → cur[j * 2 + t]? = some u := fun t u h => by
    rw [hnews, List.getElem?_drop, List.getElem?_take] at h
    split at h
    · rwa [Array.getElem?_toList] at h
    · simp at h
  have hone : ∀ u ∈ news, u.oneCell' = true := fun u hu => h1 u (by rw [hnews] at hu; exact List.mem_of_mem_drop hu)
  have hg : g < w.heap.size := (Array.getElem?_eq_some_iff.1 hh).1
  obtain ⟨A, hA, hsrc⟩ : ∃ A : Addr, (if cap = j then some (⟨g, 0, none⟩ : Addr) else some ⟨g, j * 2, none⟩) = some A ∧ Hid (∀ t u, news[t]? = some u → w.drew.cell? (A.add t) = some u) := by
    by_cases h : cap = j
    · refine ⟨⟨g, 0, none⟩, by simp [h], fun t u hu => ?_⟩
      have h0 : news.length = 0 := by rw [hlen]; omega
      rw [List.length_eq_zero_iff.1 h0] at hu
      simp at hu
    · refine ⟨⟨g, j * 2, none⟩, by simp [h], fun t u hu => ?_⟩
      have := hget t u hu
      have e : (⟨g, j * 2, none⟩ : Addr).add t = ⟨g, j * 2 + t, none⟩ := by simp [Addr.add]; try omega
      rw [e]
      show w.cell? _ = _
      simp [World.cell?, hh, this]
  have s3 : Hid (∀ t, t < news.length → (w.drew.cell? ⟨g, 0 + i * 2 + t, none⟩).isSome = true ∧ w.drew.frozen? ⟨g, 0 + i * 2 + t, none⟩ = false) := by
    intro t ht
    rw [hlen] at ht
    refine ⟨?_, ?_⟩
    · show (w.cell? _).isSome = true
      simp [World.cell?, hh]; omega
    · show w.frozen? _ = false
      simp [World.frozen?, hh]
  obtain ⟨W1, hW1⟩ : ∃ W1, W1 = w.drew.setCells g (0 + i * 2) news := ⟨_, rfl⟩
  obtain ⟨cur1, hcur1⟩ : ∃ cur1, cur1 = (cur.toList.take (0 + i * 2) ++ news ++ cur.toList.drop (0 + i * 2 + news.length)).toArray := ⟨_, rfl⟩
  have hW1' : W1 = w.drew.setRow g cur1 := by
    rw [hW1, hcur1]
    exact setCells_row (P := Try.prog) (w := w.drew) hh (by rw [hlen]; omega) hone
  have hh1 : W1.heap[g]? = some (.cells cur1 175 (0, 0)) := by
    rw [hW1']; exact setRow_heap w.drew g cur cur1 _ _ hh
  have hs1 : cur1.size = cap * 2 := by
    rw [hcur1]; simp only [List.size_toArray, List.length_append, List.length_take, List.length_drop, hcl, hlen]; omega
  have hclr : ∀ ty, (Builtin.clear_ #[35] ty #[.slice (some ⟨g, (i + (n - j)) * 2, none⟩) (n - (i + (n - j))) (cap - (i + (n - j)))]).run Try.prog W1 = .ok (.tuple #[]) (W1.setRow g (cur1.toList.take ((i + (n - j)) * 2) ++ (List.replicate (n - (i + (n - j))) [Value.string ByteArray.empty, .int .i64 0]).flatten ++ cur1.toList.drop ((i + (n - j)) * 2 + (n - (i + (n - j))) * 2)).toArray) := fun ty =>
    run_clear_row (m := 2) (n := n - (i + (n - j))) (o := (i + (n - j)) * 2) Try.underlying35 zero_Sig rfl (by simp [Value.cells, Value.oneCell']) (by omega) (by omega) hh1 (by omega)
  have HH : Hid (W1.heap[g]? = some (.cells cur1 175 (0, 0))) := Lib.hid hh1
  have HC := Lib.hid hcur1
  have HS := Lib.hid hs1
  have HN := Lib.hid hnews
  have HL := Lib.hid hlen
  have HW := Lib.hid hW1
  have HW' := Lib.hid hW1'
  have s2 := Lib.hid hone
  have HCL := Lib.hid hcl
  have HSZ := Lib.hid hsz
  have hic : i ≤ cap := by omega
  have hjc : j ≤ cap := by omega
  clear hh1 hcur1 hs1 hnews hlen hW1 hW1' hone hget hcl hsz h1 hh
  go_enter Try.func134, Try.ntmps134
  go_wp2_with fail
  go_region_law_o (refine step_append_room rfl (.tmp 22) (.tmp 25) 35 rfl 175 i0 2 Try.underlying35 hi hz1 g 0 i cap (by simp [Act.eval, Act.put]) A (n - j) (cap - j) news (by simp [Act.eval, Act.put]) HL.out hsrc.out s2.out (by omega) s3.out ?_; rw [← HW.out])
  go_wp2
  go_ret
  have hcur1 := HC.out; have hs1 := HS.out; have hnews := HN.out; have hlen := HL.out; have hcl := HCL.out; have hsz := HSZ.out
  have e0 : n - (j - i) = i + (n - j) := by omega
  have hc1l : cur1.toList.length = cap * 2 := by rw [Array.length_toList]; exact hs1
  have hA : (cur1.toList.take ((i + (n - j)) * 2)).length = (i + (n - j)) * 2 := by rw [List.length_take, hc1l]; omega
  have hR : ((List.replicate (n - (i + (n - j))) [Value.string ByteArray.empty, .int .i64 0]).flatten).length = (n - (i + (n - j))) * 2 := by simp
  refine ⟨by rw [e0]; rfl, ?_, ?_, ?_, ?_, fun k hk => ?_, _, setRow_heap W1 g cur1 _ _ _ HH.out, ?_, ?_⟩
  · rw [HW'.out]; simp [World.setRow]
  · rw [HW'.out]; rfl
  · rw [HW'.out]; rfl
  · rw [HW'.out]; rfl
  · rw [setRow_other W1 g k _ hk, HW'.out, setRow_other w.drew g k _ hk]; rfl
  · simp only [List.size_toArray, List.length_append, hA, hR, List.length_drop, hc1l]; omega
  · rw [e0]
    simp only [List.append_assoc]
    rw [List.take_append_of_le_length (by omega), List.take_of_length_le (by omega), hcur1]
    simp only [List.append_assoc, Nat.zero_add]
    have h2 : (cur.toList.take (i * 2)).length = i * 2 := by rw [List.length_take, hcl]; omega
    rw [← List.append_assoc, List.take_append_of_le_length (by rw [List.length_append, h2, hlen]; omega), List.take_of_length_le (by rw [List.length_append, h2, hlen]; omega), hnews]

theorem DeleteS_m (l : List Sig) (i j : Nat) (hij : i < j) (hj : j ≤ l.length) : FnM Try.prog 134 (.arr 175 2 (l.map dSig) true) [.own 0, .lit (.int .i64 i), .lit (.int .i64 j)] (.own 0) [.arr 175 2 ((l.take i ++ l.drop j).map dSig) true] := by
  refine ⟨plain_of Try.func134 (by kernel_rfl) (by kernel_rfl), rfl, rfl, fun base w e0 us hb hnd hrg hE hv => ?_⟩
  obtain ⟨u0, us0, rfl, p0, t0⟩ := vxs_cons hv
  obtain ⟨u1, us1, rfl, p1, t1⟩ := vxs_cons t0
  obtain ⟨u2, rfl, p2⟩ := vxs_one t1
  obtain ⟨rfl, _⟩ := p1.lit_inv
  obtain ⟨rfl, _⟩ := p2.lit_inv
  obtain ⟨e, he, rfl, _⟩ := p0.own_inv
  simp only [List.getElem?_cons_zero, Option.some.injEq] at he
  subst he
  obtain ⟨us, bs, o1, o2, o3, o4, o5⟩ := hE
  have hfl : ∀ d ∈ (l.map dSig).flatten, isLit d = true := fun d hd => by
    obtain ⟨r, hr, hd⟩ := List.mem_flatten.1 hd
    obtain ⟨x, _, rfl⟩ := List.mem_map.1 hr
    simp [dSig] at hd
    rcases hd with rfl | rfl <;> rfl
  have hbs := VRs.flat hfl o3
  subst hbs
  have hll : (l.map dSig).length = l.length := len_dSig l
  rw [hll] at o1
  obtain ⟨_, ⟨hv0, h0⟩ | ⟨g, cap, cur, hv0, hg, hh, c1, c2, c3, c4⟩⟩ := o1
  · omega
  have hne : e0.nest = [] := o5.1
  have htop : e0.top = some g := by rw [o4, hv0]; rfl
  rw [hv0]
  refine (DeleteS_c w g cap l.length i j cur hh c3 c1 c2 (by rw [c4]; exact o3.one) hij hj).mono ?_
  rintro e w' ⟨rfl, q1, q2, q3, q4, q5, cur', q6, q7, q8⟩
  have hlen2 : (l.take i ++ l.drop j).length = l.length - (j - i) := by simp; omega
  have hown1 : owned [e0] = [g] := by simp [owned, htop, hne]
  refine ⟨_, [⟨.slice (some ⟨g, 0, none⟩) (l.length - (j - i)) cap, some g, []⟩], rfl, ⟨q2, q3, q4, by omega, fun k hk hn => q5 k (by intro e; subst e; exact hn (by rw [hown1]; simp)), rfl, by simp [owned], ?_, ?_, ?_⟩⟩
  · intro k hk
    have hk' : k = g := by simpa [owned] using hk
    subst hk'
    have := (Array.getElem?_eq_some_iff.1 hh).1
    exact ⟨hg, by omega, fun _ => by rw [hown1]; simp⟩
  · intro m b e hb' he'
    cases m with
    | succ m => simp at hb'
    | zero =>
      simp only [List.getElem?_cons_zero, Option.some.injEq] at hb' he'
      subst hb'; subst he'
      have hrow : ∀ r ∈ (l.take i ++ l.drop j).map dSig, r.length = 2 := by
        intro r hr
        obtain ⟨x, _, rfl⟩ := List.mem_map.1 hr
        rfl
      have hpart : VRs w' ((l.take i ++ l.drop j).map dSig).flatten (us.take (i * 2) ++ us.drop (j * 2)) [] := by
        obtain ⟨b1, v1, s1⟩ := o3.part 0 (i * 2)
        obtain ⟨b2, v2, s2⟩ := o3.part (j * 2) (l.length * 2)
        obtain rfl : b1 = [] := List.eq_nil_iff_forall_not_mem.2 fun k hk => by have := s1 k hk; cases this
        obtain rfl : b2 = [] := List.eq_nil_iff_forall_not_mem.2 fun k hk => by have := s2 k hk; cases this
        have e1 : ((l.take i ++ l.drop j).map dSig).flatten = ((l.map dSig).flatten.drop 0).take (i * 2) ++ ((l.map dSig).flatten.drop (j * 2)).take (l.length * 2) := by
          have hf2 := flat_take (n := 2) i (xs := l.map dSig) o2
          have hf3 := flat_drop (n := 2) j (xs := l.map dSig) o2
          have hfz := flat_len (n := 2) (l := l.map dSig) o2
          have hz3 : ((l.map dSig).drop j).flatten.length ≤ l.length * 2 := by rw [hf3, List.length_drop, hfz, hll]; omega
          rw [List.map_append, List.flatten_append, List.map_take, List.map_drop, List.drop_zero, ← hf2, ← hf3, List.take_of_length_le hz3]
        have hul : us.length = l.length * 2 := by rw [o3.len, flat_len (n := 2) o2, hll]
        have hz4 : (us.drop (j * 2)).length ≤ l.length * 2 := by rw [List.length_drop]; omega
        have e2 : us.take (i * 2) ++ us.drop (j * 2) = (us.drop 0).take (i * 2) ++ (us.drop (j * 2)).take (l.length * 2) := by rw [List.drop_zero, List.take_of_length_le hz4]
        rw [e1, e2]
        exact (v1.append v2).keep (w' := w') (fun k hk => by cases hk)
      refine ⟨_, [], ⟨?_, Or.inr ⟨g, cap, cur', by rw [show ((l.take i ++ l.drop j).map dSig).length = l.length - (j - i) by rw [List.length_map, hlen2]], hg, q6, by rw [List.length_map, hlen2]; omega, c2, by rw [q7]; exact c3, ?_⟩⟩, hrow, hpart, rfl, by rw [if_pos rfl]; exact ⟨rfl, by simp⟩⟩
      · rw [hpart.len, flat_len (n := 2) hrow]
      · rw [List.length_map, hlen2, q8]
        congr 1
        · rw [← c4, List.take_take, Nat.min_eq_left (by omega)]
        · rw [c4]
  · exact VX.own (e := ⟨.slice (some ⟨g, 0, none⟩) (l.length - (j - i)) cap, some g, []⟩) rfl ⟨_, _, _, rfl⟩
end Go.Proofs.Ytjfipianehabgaa
namespace Go.Proofs.Ytjfipianehabgaa
open Go.ChangeShapes Go.WideShapes Go.ChangeAt Go.RowKit

def updL {α : Type} (f : α → α) (l : List α) (i : Nat) : List α := (l.take i).map f ++ l.drop i
theorem updL_len {α : Type} (f : α → α) (l : List α) (i : Nat) : (updL f l i).length = l.length := by simp [updL]; omega
theorem updL_nth {α : Type} [Inhabited α] {f : α → α} {l : List α} {i : Nat} (h : i < l.length) : nth (updL f l i) i = nth l i := by
  rw [nth_get (by rw [updL_len]; exact h), nth_get h]
  simp only [updL]
  rw [List.getElem_append_right (by simp; omega)]
  simp [Nat.min_eq_left (Nat.le_of_lt h)]
theorem updL_step {α : Type} [Inhabited α] {f : α → α} {l : List α} {i : Nat} (h : i < l.length) {y : α} (e : y = f (nth l i)) : (updL f l i).set i y = updL f l (i + 1) := by
  subst e
  simp only [updL]
  rw [take_nth h, drop_nth h, List.map_append, List.append_assoc, List.set_append_right _ _ (by simp; omega)]
  congr 1
  simp [Nat.min_eq_left (Nat.le_of_lt h)]
theorem updL_same {α : Type} [Inhabited α] {f : α → α} {l : List α} {i : Nat} (h : i < l.length) (e : f (nth l i) = nth l i) : updL f l (i + 1) = updL f l i := by
  simp only [updL]
  rw [take_nth h, drop_nth h, List.map_append, List.append_assoc]
  simp [e]
theorem updL_zero {α : Type} (f : α → α) (l : List α) : updL f l 0 = l := by simp [updL]
theorem updL_all {α : Type} (f : α → α) (l : List α) : updL f l l.length = l.map f := by simp [updL]
def hidLab (sig : Int) (x : Lab) : Lab := if x.sig = sig then ⟨-1, false⟩ else if sig < x.sig then ⟨x.sig - 1, x.up⟩ else x
noncomputable def hidB (s : Stg) (sig : Int) : Bool := goodStg s && (decide (0 ≤ sig ∧ sig ≤ s.signals.length - 1) && decide (2 ≤ s.signals.length))
noncomputable def hidR (s : Stg) (sig : Int) : Stg := if hidB s sig then ⟨s.net, s.signals.take sig.toNat ++ s.signals.drop (sig.toNat + 1), s.labels.map (hidLab sig), s.start⟩ else noStg
theorem hidR_no {s : Stg} {sig : Int} (h : hidB s sig = false) : hidR s sig = noStg := by simp [hidR, h]
theorem hidR_yes {s : Stg} {sig : Int} (h : hidB s sig = true) : hidR s sig = ⟨s.net, s.signals.take sig.toNat ++ s.signals.drop (sig.toNat + 1), s.labels.map (hidLab sig), s.start⟩ := by simp [hidR, h]
theorem hidR_nat {s : Stg} {n : Nat} (h : hidB s n = true) : hidR s n = ⟨s.net, s.signals.take n ++ s.signals.drop (n + 1), s.labels.map (hidLab n), s.start⟩ := by rw [hidR_yes h]; rfl
theorem lab_ok {s : Stg} (h : goodStg s = true) : s.signals.length ≤ 8 ∧ ∀ x ∈ s.labels, -1 ≤ x.sig ∧ x.sig ≤ 8 := by
  have h' := h
  simp only [goodStg, sigsB, Bool.and_eq_true, decide_eq_true_eq, List.all_eq_true, labB, Bool.or_eq_true] at h'
  obtain ⟨_, ⟨_, h3⟩, _, h5⟩ := h'
  refine ⟨by omega, fun x hx => ?_⟩
  rcases h5 x hx with h | ⟨h, _⟩ <;> omega

set_option maxHeartbeats 4000000 in
theorem HideSignal_f (s : Stg) (sig : Int) (hz : szStg s ≤ 1048576) : Fn Try.prog 57 [.agg (dStg s), .lit (.int .i64 sig)] (.tup [.agg [.lit (.int .i64 (hidR s sig).net.places), .own 0, .own 1, .own 2, .lit (.string (hidR s sig).start)], .lit (.bool (hidB s sig))]) [.arr 149 2 ((hidR s sig).net.trs.map dTr) true, .arr 175 2 ((hidR s sig).signals.map dSig) true, .arr 142 2 ((hidR s sig).labels.map dLab) true] := by
  refine Fn_ofC tabOk Try.func57 rfl (by kernel_rfl) rfl rfl ?_
  intro w0 A hin
  have hzs := len_dSig s.signals
  have hzl := len_dLab s.labels
  have hst : s.start.size ≤ 1048576 := by have := hz; simp only [szStg] at this; omega
  have hV := IsValidSTG_f s hst
  have hfl : ∀ l : List Sig, Flat (l.map dSig) := fun l => flat_map (by simp [dSig, isLit])
  cases hg : goodStg s <;> rw [hg] at hV
  · have hb : hidB s sig = false := by simp [hidB, hg]
    have hr := hidR_no hb
    repeat' (first | refine goZ ?_ | refine R_callZ rfl (hV) rfl rfl rfl ?_ | refine R_callvZ rfl (hV) rfl rfl rfl rfl ?_ | refine D_callZ rfl (hV) rfl rfl rfl ?_ | ((first | refine R_cond rfl (fun hq => ?_) fun hq => ?_ | refine R_guardT rfl rfl rfl (fun hq => ?_) fun hq => ?_ | refine R_guardF rfl rfl rfl (fun hq => ?_) fun hq => ?_ | refine D_guardT rfl rfl rfl (fun hq => ?_) fun hq => ?_ | refine D_guardF rfl rfl rfl (fun hq => ?_) fun hq => ?_) <;> (try rw [hq]) <;> first | have hp := of_decide_eq_true hq | have hp := of_decide_eq_false hq | have hp := of_decide_eq_false (not_t hq) | have hp := of_decide_eq_true (not_f hq) | have hp := hq))
    exact .r (retC_nil3t rfl (by rw [hr]; rfl) (by rw [hr]; rfl) (by rw [hb]) (by rw [hr]; rfl) (by rw [hr]; rfl) (by rw [hr]; rfl))
  obtain ⟨hN, hs1, hs2, hk⟩ := stg_ok hg hz
  obtain ⟨hs8, hlab⟩ := lab_ok hg
  cases hb : hidB s sig
  · have hr := hidR_no hb
    have hno : ¬ ((0 ≤ sig ∧ sig ≤ s.signals.length - 1) ∧ 2 ≤ s.signals.length) := by
      intro h; rw [hidB, hg, decide_eq_true h.1, decide_eq_true h.2] at hb; simp at hb
    repeat' (first | refine goZ ?_ | refine R_callZ rfl (hV) rfl rfl rfl ?_ | refine R_callZ rfl (within_f _ _ _) rfl rfl rfl ?_ | refine R_callvZ rfl (hV) rfl rfl rfl rfl ?_ | refine R_callvZ rfl (within_f _ _ _) rfl rfl rfl rfl ?_ | refine D_callZ rfl (hV) rfl rfl rfl ?_ | refine D_callZ rfl (within_f _ _ _) rfl rfl rfl ?_ | ((first | refine R_cond rfl (fun hq => ?_) fun hq => ?_ | refine R_guardT rfl rfl rfl (fun hq => ?_) fun hq => ?_ | refine R_guardF rfl rfl rfl (fun hq => ?_) fun hq => ?_ | refine D_guardT rfl rfl rfl (fun hq => ?_) fun hq => ?_ | refine D_guardF rfl rfl rfl (fun hq => ?_) fun hq => ?_) <;> (try rw [hq]) <;> first | have hp := of_decide_eq_true hq | have hp := of_decide_eq_false hq | have hp := of_decide_eq_false (not_t hq) | have hp := of_decide_eq_true (not_f hq) | have hp := hq))
    all_goals first
      | exact .r (retC_nil3t rfl (by rw [hr]; rfl) (by rw [hr]; rfl) rfl (by rw [hr]; rfl) (by rw [hr]; rfl) (by rw [hr]; rfl))
      | (exfalso; apply hno; simp only [Bool.not_eq_false', Bool.not_eq_true', decide_eq_true_eq, decide_eq_false_iff_not] at *; refine ⟨?_, ?_⟩ <;> omega)
  have hyes : (0 ≤ sig ∧ sig ≤ s.signals.length - 1) ∧ 2 ≤ s.signals.length := by
    simp only [hidB, Bool.and_eq_true, decide_eq_true_eq] at hb; exact hb.2
  obtain ⟨n, rfl⟩ : ∃ n : Nat, sig = n := ⟨sig.toNat, by omega⟩
  have hr := hidR_nat hb
  have hD := DeleteS_m s.signals n (n + 1) (by omega) (by omega)
  have e1 : ((n + 1 : Nat) : Int) = (n : Int) + 1 := by omega
  rw [e1] at hD
  have hw : decide ((0 : Int) ≤ n ∧ (n : Int) ≤ ((s.signals.map dSig).length : Int) - 1) = true := decide_eq_true (by omega)
  have hW := within_f n 0 (((s.signals.map dSig).length : Int) - 1)
  rw [hw] at hW
  repeat' (first | refine goZ ?_ | refine R_callZ rfl (hV) rfl rfl rfl ?_ | refine R_callZ rfl (copySTG_f s hN hs1 hs2) rfl rfl rfl ?_ | refine R_callZ rfl (hW) rfl rfl rfl ?_ | refine R_callvZ rfl (hV) rfl rfl rfl rfl ?_ | refine R_callvZ rfl (copySTG_f s hN hs1 hs2) rfl rfl rfl rfl ?_ | refine R_callvZ rfl (hW) rfl rfl rfl rfl ?_ | refine R_callM rfl (hD) rfl rfl rfl rfl rfl rfl rfl rfl (by first | exact hfl _ | exact flat_ints _) ?_ | refine D_callZ rfl (hV) rfl rfl rfl ?_ | refine D_callZ rfl (copySTG_f s hN hs1 hs2) rfl rfl rfl ?_ | refine D_callZ rfl (hW) rfl rfl rfl ?_ | ((first | refine R_cond rfl (fun hq => ?_) fun hq => ?_ | refine R_guardT rfl rfl rfl (fun hq => ?_) fun hq => ?_ | refine R_guardF rfl rfl rfl (fun hq => ?_) fun hq => ?_ | refine D_guardT rfl rfl rfl (fun hq => ?_) fun hq => ?_ | refine D_guardF rfl rfl rfl (fun hq => ?_) fun hq => ?_) <;> (try rw [hq]) <;> first | have hp := of_decide_eq_true hq | have hp := of_decide_eq_false hq | have hp := of_decide_eq_false (not_t hq) | have hp := of_decide_eq_true (not_f hq) | have hp := hq))
  · exfalso
    simp only [decide_eq_true_eq, decide_eq_false_iff_not] at *
    omega
  refine W_loop (fun i : Nat => ⟨_, [(1, .lit (.int .i64 n)), (2, .ptr 0 0), (4, .ptr 1 0), (6, .ptr 5 0), (38, .sh 2 (s.labels.map dLab)), (39, .lit (.int .i64 s.labels.length)), (40, .lit (.int .i64 i))], [.cells 38 (dStg s), .cells 38 [.lit (.int .i64 0), .nil, .nil, .nil, .lit (.string ⟨#[]⟩)], .arr 149 2 (s.net.trs.map dTr) true, .gone, .arr 142 2 ((updL (hidLab n) s.labels i).map dLab) true, .cells 38 [.lit (.int .i64 s.net.places), .own 2, .own 6, .own 4, .lit (.string s.start)], .arr 175 2 ((s.signals.take n ++ s.signals.drop (n + 1)).map dSig) true]⟩) (fun i => i ≤ s.labels.length) (fun i => s.labels.length - i) 0 (Nat.zero_le _) (by rw [updL_zero]; exact weakZ []) ?_
  intro i hi
  have hki : i < s.labels.length → _ := fun h => hlab _ (nth_mem h)
  have hml := updL_len (hidLab n) s.labels i
  have hml2 := len_dLab (updL (hidLab n) s.labels i)
  have hkj : i < s.labels.length → -1 ≤ (nth (updL (hidLab n) s.labels i) i).sig ∧ (nth (updL (hidLab n) s.labels i) i).sig ≤ 8 := fun h => by rw [updL_nth h]; exact hki h
  repeat' (first | refine goZ ?_ | refine R_estoreZ tabOk rfl rfl rfl rfl rfl rfl rfl (rowAt_nat (by omega)) rfl rfl (setAt_nat (v := ⟨-1, false⟩) rfl) rfl ?_ | refine R_estoreZ tabOk rfl rfl rfl rfl rfl rfl rfl (rowAt_nat (by omega)) rfl rfl (setAt_nat (v := ⟨(nth (updL (hidLab n) s.labels i) i).sig - 1, (nth (updL (hidLab n) s.labels i) i).up⟩) rfl) rfl ?_ | ((first | refine R_cond rfl (fun hq => ?_) fun hq => ?_ | refine R_guardT rfl rfl rfl (fun hq => ?_) fun hq => ?_ | refine R_guardF rfl rfl rfl (fun hq => ?_) fun hq => ?_ | refine D_guardT rfl rfl rfl (fun hq => ?_) fun hq => ?_ | refine D_guardF rfl rfl rfl (fun hq => ?_) fun hq => ?_) <;> (try rw [hq]) <;> first | have hp := of_decide_eq_true hq | have hp := of_decide_eq_false hq | have hp := of_decide_eq_false (not_t hq) | have hp := of_decide_eq_true (not_f hq) | have hp := hq))
  · refine ⟨i + 1, by omega, by omega, ?_⟩
    rw [← updL_step (show i < s.labels.length by omega) (y := ⟨-1, false⟩) (by rw [hidLab, if_pos (by first | assumption | simp_all)])]
    exact weakZ _
  · refine ⟨i + 1, by omega, by omega, ?_⟩
    rw [← updL_step (show i < s.labels.length by omega) (y := ⟨(nth (updL (hidLab n) s.labels i) i).sig - 1, (nth (updL (hidLab n) s.labels i) i).up⟩) (by rw [updL_nth (by omega), hidLab, if_neg (by simp_all), if_pos (by simp_all)])]
    exact weakZ _
  · refine ⟨i + 1, by omega, by omega, ?_⟩
    rw [updL_same (show i < s.labels.length by omega) (by rw [hidLab, if_neg (by simp_all), if_neg (by simp_all)])]
    exact weakZ _
  · have ei : i = s.labels.length := by omega
    exact .r (retC_own3t rfl rfl rfl rfl (by simp) (by rw [hr]) (by rw [hr]) rfl (by rw [hr]) (by rw [hr]) (by rw [hr, ei, updL_all]))
set_option maxHeartbeats 4000000 in
theorem specHideSignal_f (s : Stg) (sig : Int) (hz : szStg s ≤ 1048576) : Fn Try.prog 56 [.agg (dStg s), .lit (.int .i64 sig)] (.tup [.agg [.lit (.int .i64 (hidR s sig).net.places), .own 0, .own 1, .own 2, .lit (.string (hidR s sig).start)], .lit (.bool (hidB s sig))]) [.arr 149 2 ((hidR s sig).net.trs.map dTr) true, .arr 175 2 ((hidR s sig).signals.map dSig) true, .arr 142 2 ((hidR s sig).labels.map dLab) true] := by
  refine Fn_ofC tabOk Try.func56 rfl (by kernel_rfl) rfl rfl ?_
  intro w0 A hin
  have hzs := len_dSig s.signals
  have hzl := len_dLab s.labels
  have hst : s.start.size ≤ 1048576 := by have := hz; simp only [szStg] at this; omega
  have hV := l2Good_f s hst
  have hfl : ∀ l : List Sig, Flat (l.map dSig) := fun l => flat_map (by simp [dSig, isLit])
  cases hg : goodStg s <;> rw [hg] at hV
  · have hb : hidB s sig = false := by simp [hidB, hg]
    have hr := hidR_no hb
    repeat' (first | refine goZ ?_ | refine R_callZ rfl (hV) rfl rfl rfl ?_ | refine R_callvZ rfl (hV) rfl rfl rfl rfl ?_ | refine D_callZ rfl (hV) rfl rfl rfl ?_ | ((first | refine R_cond rfl (fun hq => ?_) fun hq => ?_ | refine R_guardT rfl rfl rfl (fun hq => ?_) fun hq => ?_ | refine R_guardF rfl rfl rfl (fun hq => ?_) fun hq => ?_ | refine D_guardT rfl rfl rfl (fun hq => ?_) fun hq => ?_ | refine D_guardF rfl rfl rfl (fun hq => ?_) fun hq => ?_) <;> (try rw [hq]) <;> first | have hp := of_decide_eq_true hq | have hp := of_decide_eq_false hq | have hp := of_decide_eq_false (not_t hq) | have hp := of_decide_eq_true (not_f hq) | have hp := hq))
    exact .r (retC_nil3t rfl (by rw [hr]; rfl) (by rw [hr]; rfl) (by rw [hb]) (by rw [hr]; rfl) (by rw [hr]; rfl) (by rw [hr]; rfl))
  obtain ⟨hN, hs1, hs2, hk⟩ := stg_ok hg hz
  obtain ⟨hs8, hlab⟩ := lab_ok hg
  cases hb : hidB s sig
  · have hr := hidR_no hb
    have hno : ¬ ((0 ≤ sig ∧ sig ≤ s.signals.length - 1) ∧ 2 ≤ s.signals.length) := by
      intro h; rw [hidB, hg, decide_eq_true h.1, decide_eq_true h.2] at hb; simp at hb
    repeat' (first | refine goZ ?_ | refine R_callZ rfl (hV) rfl rfl rfl ?_ | refine R_callZ rfl (l1In_f _ _ _) rfl rfl rfl ?_ | refine R_callvZ rfl (hV) rfl rfl rfl rfl ?_ | refine R_callvZ rfl (l1In_f _ _ _) rfl rfl rfl rfl ?_ | refine D_callZ rfl (hV) rfl rfl rfl ?_ | refine D_callZ rfl (l1In_f _ _ _) rfl rfl rfl ?_ | ((first | refine R_cond rfl (fun hq => ?_) fun hq => ?_ | refine R_guardT rfl rfl rfl (fun hq => ?_) fun hq => ?_ | refine R_guardF rfl rfl rfl (fun hq => ?_) fun hq => ?_ | refine D_guardT rfl rfl rfl (fun hq => ?_) fun hq => ?_ | refine D_guardF rfl rfl rfl (fun hq => ?_) fun hq => ?_) <;> (try rw [hq]) <;> first | have hp := of_decide_eq_true hq | have hp := of_decide_eq_false hq | have hp := of_decide_eq_false (not_t hq) | have hp := of_decide_eq_true (not_f hq) | have hp := hq))
    all_goals first
      | exact .r (retC_nil3t rfl (by rw [hr]; rfl) (by rw [hr]; rfl) rfl (by rw [hr]; rfl) (by rw [hr]; rfl) (by rw [hr]; rfl))
      | (exfalso; apply hno; simp only [Bool.not_eq_false', Bool.not_eq_true', decide_eq_true_eq, decide_eq_false_iff_not] at *; refine ⟨?_, ?_⟩ <;> omega)
  have hyes : (0 ≤ sig ∧ sig ≤ s.signals.length - 1) ∧ 2 ≤ s.signals.length := by
    simp only [hidB, Bool.and_eq_true, decide_eq_true_eq] at hb; exact hb.2
  obtain ⟨n, rfl⟩ : ∃ n : Nat, sig = n := ⟨sig.toNat, by omega⟩
  have hr := hidR_nat hb
  have hw : decide ((0 : Int) ≤ n ∧ (n : Int) ≤ ((s.signals.map dSig).length : Int) - 1) = true := decide_eq_true (by omega)
  have hW := l1In_f n 0 (((s.signals.map dSig).length : Int) - 1)
  rw [hw] at hW
  repeat' (first | refine goZ ?_ | refine R_callZ rfl (hV) rfl rfl rfl ?_ | refine R_callZ rfl (l2Own_f s hN hs1 hs2) rfl rfl rfl ?_ | refine R_callZ rfl (hW) rfl rfl rfl ?_ | refine R_callvZ rfl (hV) rfl rfl rfl rfl ?_ | refine R_callvZ rfl (l2Own_f s hN hs1 hs2) rfl rfl rfl rfl ?_ | refine R_callvZ rfl (hW) rfl rfl rfl rfl ?_ | refine R_append tabOk rfl rfl rfl rfl rfl rfl rfl rfl rfl rfl rfl (fun r hr => hfl _ r (List.mem_of_mem_take hr)) (by simp; omega) ?_ | refine R_append tabOk rfl rfl rfl rfl rfl rfl rfl rfl rfl rfl rfl (fun r hr => hfl _ r (List.mem_of_mem_drop hr)) (by simp; omega) ?_ | refine D_callZ rfl (hV) rfl rfl rfl ?_ | refine D_callZ rfl (l2Own_f s hN hs1 hs2) rfl rfl rfl ?_ | refine D_callZ rfl (hW) rfl rfl rfl ?_ | ((first | refine R_cond rfl (fun hq => ?_) fun hq => ?_ | refine R_guardT rfl rfl rfl (fun hq => ?_) fun hq => ?_ | refine R_guardF rfl rfl rfl (fun hq => ?_) fun hq => ?_ | refine D_guardT rfl rfl rfl (fun hq => ?_) fun hq => ?_ | refine D_guardF rfl rfl rfl (fun hq => ?_) fun hq => ?_) <;> (try rw [hq]) <;> first | have hp := of_decide_eq_true hq | have hp := of_decide_eq_false hq | have hp := of_decide_eq_false (not_t hq) | have hp := of_decide_eq_true (not_f hq) | have hp := hq))
  · exfalso
    simp only [decide_eq_true_eq, decide_eq_false_iff_not] at *
    omega
  refine W_loop (fun i : Nat => ⟨_, [(1, .lit (.int .i64 n)), (2, .ptr 0 0), (4, .ptr 1 0), (6, .ptr 5 0), (46, .sh 2 (s.labels.map dLab)), (47, .lit (.int .i64 s.labels.length)), (48, .lit (.int .i64 i))], [.cells 38 (dStg s), .cells 38 [.lit (.int .i64 0), .nil, .nil, .nil, .lit (.string ⟨#[]⟩)], .arr 149 2 (s.net.trs.map dTr) true, (.arr 175 2 (s.signals.map dSig) true), .arr 142 2 ((updL (hidLab n) s.labels i).map dLab) true, .cells 38 [.lit (.int .i64 s.net.places), .own 2, .own 6, .own 4, .lit (.string s.start)], .arr 175 2 ([] ++ (s.signals.map dSig).take n ++ (s.signals.map dSig).drop (n + 1)) true]⟩) (fun i => i ≤ s.labels.length) (fun i => s.labels.length - i) 0 (Nat.zero_le _) (by rw [updL_zero]; exact weakZ []) ?_
  intro i hi
  have hki : i < s.labels.length → _ := fun h => hlab _ (nth_mem h)
  have hml := updL_len (hidLab n) s.labels i
  have hml2 := len_dLab (updL (hidLab n) s.labels i)
  have hkj : i < s.labels.length → -1 ≤ (nth (updL (hidLab n) s.labels i) i).sig ∧ (nth (updL (hidLab n) s.labels i) i).sig ≤ 8 := fun h => by rw [updL_nth h]; exact hki h
  repeat' (first | refine goZ ?_ | refine R_estoreZ tabOk rfl rfl rfl rfl rfl rfl rfl (rowAt_nat (by omega)) rfl rfl (setAt_nat (v := ⟨-1, false⟩) rfl) rfl ?_ | refine R_estoreZ tabOk rfl rfl rfl rfl rfl rfl rfl (rowAt_nat (by omega)) rfl rfl (setAt_nat (v := ⟨(nth s.labels i).sig - 1, (nth (updL (hidLab n) s.labels i) i).up⟩) rfl) rfl ?_ | ((first | refine R_cond rfl (fun hq => ?_) fun hq => ?_ | refine R_guardT rfl rfl rfl (fun hq => ?_) fun hq => ?_ | refine R_guardF rfl rfl rfl (fun hq => ?_) fun hq => ?_ | refine D_guardT rfl rfl rfl (fun hq => ?_) fun hq => ?_ | refine D_guardF rfl rfl rfl (fun hq => ?_) fun hq => ?_) <;> (try rw [hq]) <;> first | have hp := of_decide_eq_true hq | have hp := of_decide_eq_false hq | have hp := of_decide_eq_false (not_t hq) | have hp := of_decide_eq_true (not_f hq) | have hp := hq))
  · refine ⟨i + 1, by omega, by omega, ?_⟩
    rw [← updL_step (show i < s.labels.length by omega) (y := ⟨-1, false⟩) (by rw [hidLab, if_pos (by first | assumption | simp_all)])]
    exact weakZ _
  · refine ⟨i + 1, by omega, by omega, ?_⟩
    rw [← updL_step (show i < s.labels.length by omega) (y := ⟨(nth s.labels i).sig - 1, (nth (updL (hidLab n) s.labels i) i).up⟩) (by rw [updL_nth (by omega), hidLab, if_neg (by simp_all), if_pos (by simp_all)])]
    exact weakZ _
  · refine ⟨i + 1, by omega, by omega, ?_⟩
    rw [updL_same (show i < s.labels.length by omega) (by rw [hidLab, if_neg (by simp_all), if_neg (by simp_all)])]
    exact weakZ _
  · have ei : i = s.labels.length := by omega
    exact .r (retC_own3t rfl rfl rfl rfl (by simp) (by rw [hr]) (by rw [hr]) rfl (by rw [hr]) (by rw [hr, List.map_append, List.map_take, List.map_drop]; rfl) (by rw [hr, ei, updL_all]))

theorem stg_le' {s t : Stg} (h : goodStg s = true) (e1 : t.net = s.net) (e2 : t.signals.length ≤ s.signals.length) (e3 : t.labels.length = s.labels.length) : ((cntTrs t.net.trs ≤ szStg s ∧ t.net.trs.length ≤ 24) ∧ t.signals.length ≤ 8 ∧ t.labels.length ≤ 24) ∧ -9223372036854775808 ≤ t.net.places ∧ t.net.places ≤ 9223372036854775807 := by
  obtain ⟨⟨h1, h2, h3⟩, h4⟩ := stg_le (t := ⟨t.net, s.signals, t.labels, t.start⟩) h e1 rfl e3
  exact ⟨⟨h1, Nat.le_trans e2 h2, h3⟩, h4⟩
theorem hidR_le (s : Stg) (sig : Int) : ((cntTrs (hidR s sig).net.trs ≤ szStg s ∧ (hidR s sig).net.trs.length ≤ 24) ∧ (hidR s sig).signals.length ≤ 8 ∧ (hidR s sig).labels.length ≤ 24) ∧ -9223372036854775808 ≤ (hidR s sig).net.places ∧ (hidR s sig).net.places ≤ 9223372036854775807 := by
  cases hb : hidB s sig
  · rw [hidR_no hb]; simp [noStg, cntTrs]
  · rw [hidR_yes hb]
    simp only [hidB, Bool.and_eq_true] at hb
    exact stg_le' hb.1 rfl (by simp; omega) (by simp)
end Go.Proofs.Ytjfipianehabgaa
