/- What the program's reading of lines calls: the library's functions, and the place's number. No condition. Functions that read a table of the package and whose results lie in variables. No condition. The program's reading of lines: labels, places, the line of a transition. No condition. The program's reading of lines: the signals' lines. No condition. -/
import Derived.Test.YtcpjhpjlcgcigaaGreatDoorPrN
import Derived.Test.YtcpjhpjlcgcigaaGreatDoorLaySplit
import Derived.Test.YtcpjhpjlcgcigaaGreatDoorLayCut
import Derived.Test.YtcpjhpjlcgcigaaGreatDoorLayCon
import Derived.Test.YtcpjhpjlcgcigaaGreatDoorLayAtoi
import Derived.Test.YtcpjhpjlcgcigaaGreatDoorFsb
import Derived.Test.YtcpjhpjlcgcigaaGreatDoorRen
import Derived.Test.YtcpjhpjlcgcigaaGreatDoorAbsY
import Derived.Test.YtcpjhpjlcgcigaaGreatDoorStg
set_option linter.unusedSimpArgs false
set_option linter.unusedVariables false
set_option maxHeartbeats 2000000
namespace Go.Proofs.YtcpjhpjlcgcigaaGreatDoor
open Go.ChangeShapes Go.WideShapes Go.ChangeAt Go.RowKit

/-- What the library's functions ask of the world: the table of words, an int, and two values of an interface's type. -/
structure XW (w : World) : Prop where
  kw : KW w
  ml : ∃ m, w.cell? ⟨1, 0, none⟩ = some (.int .i64 m)
  es : ∃ ev, w.cell? ⟨4, 0, none⟩ = some ev ∧ (ev = .nilIface ∨ ∃ te pe, ev = .iface te pe)
  er : ∃ ev, w.cell? ⟨5, 0, none⟩ = some ev ∧ (ev = .nilIface ∨ ∃ te pe, ev = .iface te pe)
theorem XW.ext {w w' : World} (h : XW w) (hx : Ext w w') : XW w' := by
  obtain ⟨h1, ⟨m, h2⟩, ⟨e3, h3, h3'⟩, ⟨e4, h4, h4'⟩⟩ := h
  exact ⟨h1.ext hx, ⟨m, by rw [hx.cell (lt_of_cell h2)]; exact h2⟩, ⟨e3, by rw [hx.cell (lt_of_cell h3)]; exact h3, h3'⟩, ⟨e4, by rw [hx.cell (lt_of_cell h4)]; exact h4, h4'⟩⟩

section
variable {P : Program} {X X' : World → Prop} {f : FuncId} {ds : List D} {d : D} {rh : List Blk}
theorem FnG.mono (h : FnG X P f ds d rh) (hX : ∀ w, X' w → X w) : FnG X' P f ds d rh := ⟨h.plain, h.arrs, fun A w us hw hA hus => h.calls A w us (hX w hw) hA hus⟩
theorem Fn.glob (h : Fn P f ds d rh) : FnG X P f ds d rh := ⟨h.plain, h.arrs, fun A w us _ hA hus => h.calls A w us hA hus⟩
/-- A function of two scalars' results, whose contract was proved elsewhere. -/
theorem FnG.of_lit2 {v v2 : Value} (hl : litOk v) (hl2 : litOk v2) (hp : ∀ args w, (callFunc f args).run P w = .ok (.enter f args) w) (h : ∀ (w : World) (us : List Value), X w → VXs [] w (Lt w) ds us → Calls P f us.toArray w fun e w' => e = .returned (.tuple #[v, v2]) ∧ Ext w w') : FnG X P f ds (.tup [.lit v, .lit v2]) [] := by
  refine ⟨hp, rfl, fun A w us hX hA hus => (h w us hX (VXs.mono (fun k hk => ⟨rfl, hA k hk⟩) hus fun _ _ _ h => h)).mono ?_⟩
  rintro e w' ⟨rfl, hx⟩
  exact ⟨_, [], rfl, hx, rfl, by simp [owned], by simp [owned], by simp, .tup (us := [v, v2]) (.cons (VX.of_lit hl) (.cons (VX.of_lit hl2) .nil))⟩
theorem Fn.of_lit2 {v v2 : Value} (hl : litOk v) (hl2 : litOk v2) (hp : ∀ args w, (callFunc f args).run P w = .ok (.enter f args) w) (h : ∀ (w : World) (us : List Value), VXs [] w (Lt w) ds us → Calls P f us.toArray w fun e w' => e = .returned (.tuple #[v, v2]) ∧ Ext w w') : Fn P f ds (.tup [.lit v, .lit v2]) [] := by
  refine ⟨hp, rfl, fun A w us hA hus => (h w us (VXs.mono (fun k hk => ⟨rfl, hA k hk⟩) hus fun _ _ _ h => h)).mono ?_⟩
  rintro e w' ⟨rfl, hx⟩
  exact ⟨_, [], rfl, hx, rfl, by simp [owned], by simp [owned], by simp, .tup (us := [v, v2]) (.cons (VX.of_lit hl) (.cons (VX.of_lit hl2) .nil))⟩
theorem vrs_strs {w : World} : ∀ {l : List ByteArray}, (∀ x ∈ l, x.size ≤ 9223372036854775807) → VRs w (strs l).flatten (l.map Value.string) []
  | [], _ => .nil
  | x :: l, h => .cons (bs := []) (.lit (show x.size ≤ 9223372036854775807 from h x (List.mem_cons_self ..))) (vrs_strs fun y hy => h y (List.mem_cons_of_mem _ hy))
end

/-! ### The library's functions -/
theorem Split_g (s : ByteArray) (c : UInt8) {b : Int} (hb : b = (c.toNat : Int)) (hs : s.size ≤ 1048576) : FnG XW Tryz.prog 13 [.lit (.string s), .lit (.string ⟨#[c]⟩)] (.sh 1 (strs (splitS s b))) [] := by
  refine ⟨plain_of Tryz.func13 (by kernel_rfl) (by kernel_rfl), rfl, fun A w us hX hA hus => ?_⟩
  cases hus with
  | cons h1 h2 =>
    cases h2 with
    | cons h2 h3 =>
      cases h3
      obtain ⟨rfl, _⟩ := h1.lit_inv
      obtain ⟨rfl, _⟩ := h2.lit_inv
      obtain ⟨m, hm⟩ := hX.ml
      refine (Go.Proofs.Any.strings_Split laySplit (by kernel_rfl) s ⟨#[c]⟩ m w (by omega) hm (Nat.le_refl 1)).mono ?_
      rintro e w' ⟨rfl, rfl⟩
      have hlen := Go.Lib.splitB_all ⟨#[c]⟩ (Nat.le_refl 1) 0 _ s rfl
      rw [splitB_pieces, ← splitS_pieces s c hb] at hlen
      rw [splitB_pieces, ← splitS_pieces s c hb, ← hlen]
      have hex : Ext w (w.alloc (.cells ((splitS s b).map Value.string).toArray 9)) := (Ext.refl w).alloc _
      have hh : (w.alloc (.cells ((splitS s b).map Value.string).toArray 9)).heap[w.heap.size]? = some (.cells ((splitS s b).map Value.string).toArray 9 (0, 0)) := heap_alloc_new w _
      have hl2 : (strs (splitS s b)).length = (splitS s b).length := len_strs _
      have hsz : w.heap.size < (w.alloc (.cells ((splitS s b).map Value.string).toArray 9)).heap.size := (Array.getElem?_eq_some_iff.1 hh).1
      have hc := splitS_len s b
      have key : VR (w.alloc (.cells ((splitS s b).map Value.string).toArray 9)) (.sh 1 (strs (splitS s b))) (.slice (some ⟨w.heap.size, 0, none⟩) (splitS s b).length (splitS s b).length) [w.heap.size] := by
        rw [← hl2]
        refine .sh ?_ (Nat.le_refl _) (by omega) hsz (vrs_strs fun x hx => by have := splitS_size hx; omega) ?_
        · intro r hr
          simp only [strs, List.mem_map] at hr
          obtain ⟨_, _, rfl⟩ := hr
          rfl
        · intro j hj
          rw [Nat.zero_add, cell_box]; simp
      refine ⟨_, [], rfl, hex, rfl, by simp [owned], by simp [owned], by simp, .rd key ?_⟩
      intro k hk
      obtain rfl : k = w.heap.size := by simpa using hk
      exact ⟨hsz, Or.inl (Nat.le_refl _), by simp [tops]⟩
theorem CutAny_f (s q : ByteArray) (hs : (⟨(Go.Lib.trimPrefix s.data.toList q.data.toList).toArray⟩ : ByteArray).size ≤ 1048576) : Fn Tryz.prog 15 [.lit (.string s), .lit (.string q)] (.tup [.lit (.string ⟨(Go.Lib.trimPrefix s.data.toList q.data.toList).toArray⟩), .lit (.bool (Go.Lib.hasPrefix s.data.toList q.data.toList))]) [] := by
  refine Fn.of_lit2 (Nat.le_trans hs (by decide)) trivial (plain_of Tryz.func15 (by kernel_rfl) (by kernel_rfl)) fun w0 us hus => ?_
  cases hus with
  | cons h1 h2 =>
    cases h2 with
    | cons h2 h3 =>
      cases h3
      obtain ⟨rfl, _⟩ := h1.lit_inv
      obtain ⟨rfl, _⟩ := h2.lit_inv
      refine (Go.Proofs.Any.strings_CutPrefix layCut s q w0).mono ?_
      rintro e w' ⟨rfl, rfl⟩
      exact ⟨rfl, Ext.refl _⟩
theorem CutPrefix_f (s w : ByteArray) (hs : s.size ≤ 1048576) : Fn Tryz.prog 15 [.lit (.string s), .lit (.string (w ++ ⟨#[32]⟩))] (.tup [.lit (.string (offW s w)), .lit (.bool (hasW s w))]) [] :=
  CutAny_f s (w ++ ⟨#[32]⟩) (Nat.le_trans (offW_size s w) hs)
theorem CutStart_f (s : ByteArray) (hs : s.size ≤ 1048576) : Fn Tryz.prog 15 [.lit (.string s), .lit (.string ⟨#[115, 116, 97, 114, 116, 32]⟩)] (.tup [.lit (.string (offW s startW)), .lit (.bool (hasW s startW))]) [] := by
  have e : startW ++ ⟨#[32]⟩ = ⟨#[115, 116, 97, 114, 116, 32]⟩ := ByteArray.ext (by simp [startW])
  have h := CutPrefix_f s startW hs
  rwa [e] at h
theorem Contains_f (s : ByteArray) : Fn Tryz.prog 16 [.lit (.string s), .lit (.string ⟨#[32]⟩)] (.lit (.bool (hasB s))) [] := by
  refine Fn.of_lit trivial (plain_of Tryz.func16 (by kernel_rfl) (by kernel_rfl)) fun w us hus => ?_
  cases hus with
  | cons h1 h2 =>
    cases h2 with
    | cons h2 h3 =>
      cases h3
      obtain ⟨rfl, _⟩ := h1.lit_inv
      obtain ⟨rfl, _⟩ := h2.lit_inv
      refine (Go.Proofs.Any.strings_Contains_one layCon s 32 w).mono ?_
      rintro e w' ⟨rfl, rfl⟩
      exact ⟨rfl, Ext.refl _⟩

/-! ### A place's number -/
theorem bw_ext {w w' : World} {t : TypeId} (h : w' = w ∨ ∃ s, w' = Go.Lib.bytesWorld w t s) : Ext w w' := by
  rcases h with rfl | ⟨s, rfl⟩
  · exact Ext.refl _
  · exact Go.Lib.bytesWorld_below w t s
set_option maxHeartbeats 1000000 in
/-- A word that is no number. -/
theorem place_bad (s : ByteArray) (n : Int) (w : World) (t : TypeId) (hA : Calls Tryz.prog 86 #[.string s] w fun e w' => ∃ N, e = .returned (.tuple #[.int .i64 n, .iface t (.pointer (some ⟨N, 0, none⟩))]) ∧ Ext w w') : Calls Tryz.prog 65 #[.string s] w fun e w' => e = .returned (.tuple #[.int .i64 n, .bool false]) ∧ Ext w w' := by
  go_enter Tryz.func65, Tryz.ntmps65
  go_wp2_with fail
  refine hA.mono ?_
  rintro e w1 ⟨N, rfl, hx⟩
  go_wp2
  go_ret2
  exact ⟨rfl, hx⟩
set_option maxHeartbeats 1000000 in
theorem place_c (s : ByteArray) (hs : s.size ≤ 1048576) : ∃ v : Int, (-9223372036854775808 ≤ v ∧ v ≤ 9223372036854775807) ∧ (0 ≤ twoS s → twoS s = v) ∧ ∀ w, XW w → Calls Tryz.prog 65 #[.string s] w fun e w' => e = .returned (.tuple #[.int .i64 v, .bool (decide (0 ≤ twoS s))]) ∧ Ext w w' := by
  cases ha : Go.Lib.atoiAll s.data.toList
  case ok v =>
    have hb := Go.Lib.atoiAll_bounds ha
    have hA0 := fun w => Go.Proofs.Any.strconv_Atoi_ok layAtoi s (by omega) v ha w
    by_cases h2 : s.size ≤ 2
    · obtain ⟨f1, f2, f3, f4⟩ := place_ok h2 ha
      refine ⟨v, hb, f4, fun w hX => ?_⟩
      have hA := hA0 w
      have hl : ((s.size : Int) ≤ 2) = True := by simp; omega
      by_cases h0 : 0 ≤ v
      · obtain ⟨i, rfl⟩ : ∃ i : Nat, v = i := ⟨v.toNat, by omega⟩
        have hI := fun w1 => Go.Proofs.Any.strconv_Itoa_small layItoa i (by omega) w1
        rw [decDigits_num (by omega)] at hI
        have hI2 : ∀ w1, Calls Tryz.prog 71 #[.int .i64 i] w1 fun e w' => e = .returned (.string (numB i)) ∧ w' = w1 := hI
        clear hI
        have e : decide (0 ≤ twoS s) = decide (numB i = s) := by
          rw [decide_eq_decide, f3]
          exact ⟨fun h => h.2, fun h => ⟨h0, h⟩⟩
        rw [e]
        clear e f3 f4
        generalize numB i = q at hI2
        have hge : ((i : Int) ≥ 0) = True := by simp
        go_enter Tryz.func65, Tryz.ntmps65
        go_wp2_with fail
        refine hA.mono ?_
        rintro e w1 ⟨rfl, hw⟩
        have hx := bw_ext hw
        clear hw
        go_wp2_with fail
        refine (hI2 w1).mono ?_
        rintro e w2 ⟨rfl, rfl⟩
        go_wp2
        go_ret2
        refine ⟨?_, hx⟩
        rw [← bytes_toList_beq]
        rfl
      · have e : decide (0 ≤ twoS s) = false := decide_eq_false (by rw [f3]; exact fun h => h0 h.1)
        rw [e]
        have hge : (v ≥ 0) = False := by simp; omega
        go_enter Tryz.func65, Tryz.ntmps65
        go_wp2_with fail
        refine hA.mono ?_
        rintro e w1 ⟨rfl, hw⟩
        have hx := bw_ext hw
        clear hw
        go_wp2
        go_ret2
        exact ⟨rfl, hx⟩
    · have h3 := twoS_long h2
      refine ⟨v, hb, by omega, fun w hX => ?_⟩
      have hA := hA0 w
      rw [h3]
      have hl : ((s.size : Int) ≤ 2) = False := by simp; omega
      go_enter Tryz.func65, Tryz.ntmps65
      go_wp2_with fail
      refine hA.mono ?_
      rintro e w1 ⟨rfl, hw⟩
      have hx := bw_ext hw
      clear hw
      go_wp2
      go_ret2
      exact ⟨rfl, hx⟩
  case range =>
    have h3 := place_no (s := s) (by simp [ha])
    refine ⟨Go.Lib.atoiSat s.data.toList, ?_, by omega, fun w hX => ?_⟩
    · unfold Go.Lib.atoiSat; split <;> omega
    rw [decide_eq_false (by omega)]
    obtain ⟨ev, h4, h5⟩ := hX.er
    exact place_bad s _ w _ ((Go.Proofs.Any.strconv_Atoi_range layAtoi s (by omega) ha ev w h4 h5).mono fun e w' ⟨N, h6, _, _, h7⟩ => ⟨N, h6, h7⟩)
  · have h3 := place_no (s := s) (by simp [ha])
    refine ⟨0, by omega, by omega, fun w hX => ?_⟩
    rw [decide_eq_false (by omega)]
    obtain ⟨ev, h4, h5⟩ := hX.es
    exact place_bad s 0 w _ ((Go.Proofs.Any.strconv_Atoi_syntax layAtoi s (by omega) ha ev w h4 h5).mono fun e w' ⟨N, h6, _, _, h7⟩ => ⟨N, h6, h7⟩)
theorem place_g (s : ByteArray) (hs : s.size ≤ 1048576) : ∃ v : Int, (-9223372036854775808 ≤ v ∧ v ≤ 9223372036854775807) ∧ (0 ≤ twoS s → twoS s = v) ∧ FnG XW Tryz.prog 65 [.lit (.string s)] (.tup [.lit (.int .i64 v), .lit (.bool (decide (0 ≤ twoS s)))]) [] := by
  obtain ⟨v, h1, h2, h3⟩ := place_c s hs
  refine ⟨v, h1, h2, FnG.of_lit2 (litOk_i64.2 h1) trivial (plain_of Tryz.func65 (by kernel_rfl) (by kernel_rfl)) fun w us hX hus => ?_⟩
  cases hus with
  | cons h4 h5 =>
    cases h5
    obtain ⟨rfl, _⟩ := h4.lit_inv
    exact h3 w hX
end Go.Proofs.YtcpjhpjlcgcigaaGreatDoor
namespace Go.Proofs.YtcpjhpjlcgcigaaGreatDoor
open Go.ChangeShapes Go.WideShapes Go.ChangeAt Go.RowKit

def retDE (tab : Nat → Option TI) (s : St) : List ResultVar → Option D
  | [.cell t T, .cell t2 T2, .tmp u] => cellK tab s t T fun d => cellK tab s t2 T2 fun d2 => forceK (s.get u) fun d3 => some (.tup [d, d2, d3])
  | l => retDC tab s l
def RetE (tab : Nat → Option TI) (rs : Array ResultVar) (d : D) (rh : List Blk) (s : St) : Prop := ∃ dd js, retDE tab s rs.toList = some dd ∧ cv s.heap js dd d ∧ rhOk s.heap js rh ∧ (js.filterMap id).Nodup
inductive retE (tab : Nat → Option TI) (rs : Array ResultVar) (d : D) (rh : List Blk) : Exit → St → Prop
  | r {s : St} : RetE tab rs d rh s → retE tab rs d rh .ret s
  | n {s : St} : RetE tab rs d rh s → retE tab rs d rh .normal s
section
variable {P : Program} {w0 w : World} {A : Nat → Prop} {s : St} {ms : List Ent} {a : Act} {tab : Nat → Option TI} {X : World → Prop}
theorem resultsE_ok {fn : Func} {dd : D} (hT : TabOk P tab) (h : retDE tab s fn.results.toList = some dd) (hr : Rel w0 A ms s a w) : ∃ v, (results fn a.tmps).run P w = .ok v w ∧ VX ms w (OkB w0.heap.size A ms w) dd v := by
  have e : ∀ l, fn.results.toList = l → fn.results = l.toArray := fun l h => by rw [← h]
  unfold retDE at h
  split at h
  · rename_i t T t2 T2 u hl
    obtain ⟨ad, d, v, h1, h2, h3, h4⟩ := cell_ok hT hr h
    obtain ⟨ad2, d2, v2, k1, k2, k3, k4⟩ := cell_ok hT hr h4
    have k4 := forceK_eq k4
    simp only [Option.some.injEq] at k4; subst k4
    have h1' : (asAddr (a.tmps[t]?.getD undef)).run P w = .ok ad w := by simpa [Array.getD_eq_getD_getElem?] using h1
    have k1' : (asAddr (a.tmps[t2]?.getD undef)).run P w = .ok ad2 w := by simpa [Array.getD_eq_getD_getElem?] using k1
    exact ⟨.tuple [v, v2, a.tmps.getD u undef].toArray, by simp [results, e _ hl, h1', h2, k1', k2, Result.andThen], .tup (.cons h3 (.cons k3 (.cons (hr.slots u) .nil)))⟩
  · exact resultsC_ok hT h hr
theorem FnG_ofE {f : FuncId} {fn : Func} {c : Code} {ds : List D} {d : D} {rh : List Blk} (hT : TabOk P tab) (hf : P.funcs[f]? = some fn) (hb : fn.body = some c) (hname : (fn.name == "runtime.NumGoroutine") = false) (hn : Nat.ble ds.length fn.ntmps = true) (hrh : rh.all Blk.isArr = true)
    (h : ∀ w0 A, X w0 → Given w0 A ds → W P w0 A c ⟨fn.ntmps, argSlots 0 ds, []⟩ (retE tab fn.results d rh)) : FnG X P f ds d rh := by
  refine ⟨?_, hrh, ?_⟩
  · intro args w
    have h1 : ¬ fn.name = "runtime.NumGoroutine" := by simpa using hname
    have h2 : ¬ fn.body = none := by rw [hb]; simp
    simp [callFunc, program, Sem.run, go_sem, hf, h1, h2]
  · intro A w us hX hA hus
    have hl := hus.len
    have hn' : ds.length ≤ fn.ntmps := Nat.le_of_ble_eq_true hn
    refine calls_of_wp hf hb (Code.wp_mono ?_ ((h w A hX ⟨us, hus⟩).run [] { tmps := us.toArray ++ Array.replicate (fn.ntmps - us.toArray.size) undef, defers := [] } w ?_))
    · rintro e a' w' ⟨ms, s, hr, hq⟩
      have key : RetE tab fn.results d rh s → a'.defers = [] ∧ ∃ v, (results fn a'.tmps).run P w' = .ok v w' ∧ ∃ v' ms, Ending.returned v = .returned v' ∧ Post w A d rh ms v' w' := by
        rintro ⟨dd, js, h1, h2, h3, h4⟩
        obtain ⟨v, h5, h6⟩ := resultsE_ok (P := P) hT h1 hr
        exact ⟨hr.defers, v, h5, v, _, rfl, hr.post h3 h4 h6 h2⟩
      cases hq with
      | r h => exact key h
      | n h => exact key h
    · refine ⟨Ext.refl _, hA, by simp; omega, rfl, rfl, by simp [owned], by simp [owned], by simp, fun t => ?_⟩
      refine look_arg (List.replicate (fn.ntmps - us.length) undef) (VXs.mono (ms' := []) (w' := w) (Ok' := OkB w.heap.size A [] w) (fun k hk => ⟨rfl, hA k hk, Or.inr hk, by simp [tops]⟩) hus fun _ _ _ h => h) 0 t _ fun _ => ?_
      have e : (us.toArray ++ Array.replicate (fn.ntmps - us.toArray.size) undef) = (us ++ List.replicate (fn.ntmps - us.length) undef).toArray := by
        rw [← List.append_toArray, List.size_toArray, List.toArray_replicate]
      rw [e]; simp [Array.getD_eq_getD_getElem?, List.getD_eq_getElem?_getD]
/-- A structure of scalars, and a scalar. -/
theorem retE_lits {rs : Array ResultVar} {u1 u2 v u1' u2' v' : Value} (h : retDE tab s rs.toList = some (.tup [.agg [.lit u1, .lit u2], .lit v])) (e1 : u1 = u1') (e2 : u2 = u2') (e : v = v') : RetE tab rs (.tup [.agg [.lit u1', .lit u2'], .lit v']) [] s :=
  ⟨_, [], h, ⟨⟨e1, e2, trivial⟩, e, trivial⟩, trivial, by simp⟩
/-- A structure of scalars, one of two slices of the call's own, and a scalar. -/
theorem retE_rows {rs : Array ResultVar} {u1 u2 v u1' u2' v' : Value} {i j : Nat} {t t' : TypeId} {m m' : Nat} {xs xs' ys ys' : List (List D)} {dp dp' : Bool} (h : retDE tab s rs.toList = some (.tup [.agg [.lit u1, .lit u2], .agg [.own i, .own j], .lit v])) (hi : s.heap[i]? = some (.arr t m xs dp)) (hj : s.heap[j]? = some (.arr t' m' ys dp')) (hij : i ≠ j) (e1 : u1 = u1') (e2 : u2 = u2') (e : v = v') (ex : xs = xs') (ey : ys = ys') : RetE tab rs (.tup [.agg [.lit u1', .lit u2'], .agg [.own 0, .own 1], .lit v']) [.arr t m xs' dp, .arr t' m' ys' dp'] s :=
  ⟨_, [some i, some j], h, ⟨⟨e1, e2, trivial⟩, ⟨rfl, rfl, trivial⟩, e, trivial⟩, ⟨by rw [← ex]; exact hi, rfl, by rw [← ey]; exact hj, rfl, trivial⟩, by simp [hij]⟩
theorem retE_nils {rs : Array ResultVar} {u1 u2 v u1' u2' v' : Value} {t t' : TypeId} {m m' : Nat} {xs' ys' : List (List D)} {dp dp' : Bool} (h : retDE tab s rs.toList = some (.tup [.agg [.lit u1, .lit u2], .agg [.nil, .nil], .lit v])) (e1 : u1 = u1') (e2 : u2 = u2') (e : v = v') (ex : xs' = []) (ey : ys' = []) : RetE tab rs (.tup [.agg [.lit u1', .lit u2'], .agg [.own 0, .own 1], .lit v']) [.arr t m xs' dp, .arr t' m' ys' dp'] s :=
  ⟨_, [none, none], h, ⟨⟨e1, e2, trivial⟩, ⟨rfl, rfl, trivial⟩, e, trivial⟩, ⟨ex, ey, trivial⟩, by simp⟩
/-- A slice of the call's own, and one that is read alone. -/
theorem ret_own_shl {rs : Array ResultVar} {i k : Nat} {t : TypeId} {m : Nat} {xs xs' ys ys' : List (List D)} {dp : Bool} (h : retD s rs.toList = some (.tup [.own i, .sh k ys])) (hb : s.heap[i]? = some (.arr t m xs dp)) (e : xs = xs') (ey : ys = ys') : RetS rs (.tup [.own 0, .sh k ys']) [.arr t m xs' dp] s :=
  ⟨_, [some i], h, ⟨rfl, ⟨rfl, ey⟩, trivial⟩, ⟨by rw [← e]; exact hb, rfl, trivial⟩, by simp⟩
end
/-! ### A table of the package, read in a region that draws its order -/
section
variable {P : Program} {tab : Nat → Option TI} {w0 : World} {A : Nat → Prop} {n : Nat} {sl : List (Nat × D)} {hp : List Blk} {ops : Array Oper} {K : St → Prop} {L : List (Tmp × Nat × Value)} {fuel : Nat} {listed : Array Bool}
theorem H_globIdx (hT : TabOk P tab) (k0 : Nat) {i : Nat} {t : Tmp} {y : Operand} {tl T ty : TypeId} {pos : String} {after : Array Edge} {g len : Nat} {j : Int} {kk : TK} {agg : Bool} {bytes : Nat} {zero : List Value} (hcd : cand ops listed k0 = some i) (hi : ops[i]? = some ⟨some t, .indexAddr tl (.global g) y, ty, pos, after, none⟩) (hs : noSel ops.toList = true) (hL : L.all (fun x => !Nat.beq x.1 t) = true) (hheld : heldOk ⟨n, sl, hp⟩ L) (htn : Nat.blt t n = true)
    (hu : P.underlying tl = some (.array len T)) (ht : tab T = some ⟨kk, agg, 1, bytes, zero⟩) (hy : evD (look sl) y = .lit (.int .i64 j)) (hj : 0 ≤ j ∧ j < (len : Int))
    (h : WH P w0 A ops L fuel (listed.setIfInBounds i true) ⟨n, (t, .val (.pointer (some ⟨g, j.toNat, none⟩))) :: sl, hp⟩ K) : WH P w0 A ops L (fuel + 1) listed ⟨n, sl, hp⟩ K := by
  refine H_take' hi hs (cand_spec hcd).1 (cand_spec hcd).2 hL hheld htn (fun ms a w a0 hr ha => ?_) h
  obtain ⟨inf', td', z', g1, g2, g3, g4, g5, g6, _⟩ := hT.get ht
  obtain ⟨e2, _⟩ := (hr.ev_at hy).lit_inv
  refine ⟨_, fun w' _ => ?_, .val⟩
  have e1 : a.eval (.global g) = .pointer (some ⟨g, 0, none⟩) := rfl
  simp only [execOp, Instr.indexAt, e1, e2, asIntOf, Sem.run_bind, Sem.run, pure, Result.andThen, run_underlying hu, Instr.sureAddr]
  simp only [hj.1, hj.2, and_self, if_true, run_sizeOf g1, g6]
  simp only [Addr.add]
  by_cases hb : j.toNat * 1 = 0 <;> simp [hb, run_sizeOf g1, g6]
  all_goals omega
theorem H_globLoad (hT : TabOk P tab) (k0 : Nat) {i : Nat} {t : Tmp} {x : Operand} {tl ty : TypeId} {pos : String} {after : Array Edge} {g o : Nat} {v : Value} {kk : TK} {bytes : Nat} {zero : List Value} (hcd : cand ops listed k0 = some i) (hi : ops[i]? = some ⟨some t, .load tl x, ty, pos, after, none⟩) (hs : noSel ops.toList = true) (hL : L.all (fun x => !Nat.beq x.1 t) = true) (hheld : heldOk ⟨n, sl, hp⟩ L) (htn : Nat.blt t n = true)
    (hx : evD (look sl) x = .val (.pointer (some ⟨g, o, none⟩))) (hc : w0.cell? ⟨g, o, none⟩ = some v) (hl : litOk v) (ht : tab tl = some ⟨kk, false, 1, bytes, zero⟩)
    (h : WH P w0 A ops L fuel (listed.setIfInBounds i true) ⟨n, (t, .lit v) :: sl, hp⟩ K) : WH P w0 A ops L (fuel + 1) listed ⟨n, sl, hp⟩ K := by
  refine H_take' hi hs (cand_spec hcd).1 (cand_spec hcd).2 hL hheld htn (fun ms a w a0 hr ha => ?_) h
  obtain ⟨inf, td, z, h1, h2, h3, h4, h5, h6, _⟩ := hT.get ht
  have hgx := valG_ev (a := a) (hr.ev_at hx)
  have hag : aggDesc td = false := h5.symm
  refine ⟨v, fun w' hw' => ?_, VX.of_lit hl⟩
  have hc1 : w'.cell? ⟨g, o, none⟩ = some v := by rw [hw'.ext.cell (lt_of_cell hc)]; exact hc
  have hld : (loadVar tl ⟨g, o, none⟩).run P w' = .ok v w' := by
    unfold loadVar
    simp only [Sem.run_bind, run_isAgg h2, Result.andThen, hag]
    simp only [Bool.false_eq_true, if_false, Go.load, Sem.run, hc1]
  have hld2 : (Instr.loadAt tl (.pointer (some ⟨g, o, none⟩))).run P w' = .ok v w' := by
    simp only [Instr.loadAt, Instr.sureAddr, Sem.run_bind, Sem.run, Result.andThen, pure]; exact hld
  simp only [execOp, hgx, Sem.run_bind, hld2, Result.andThen]; rfl
end
end Go.Proofs.YtcpjhpjlcgcigaaGreatDoor
namespace Go.Proofs.YtcpjhpjlcgcigaaGreatDoor
open Go.ChangeShapes Go.WideShapes Go.ChangeAt Go.RowKit

theorem labV_til {sigs : List Sig} {x : ByteArray} (h : x = ⟨#[126]⟩) : labV sigs x = ⟨-1, false⟩ ∧ lbOk sigs x = true := by
  subst h
  exact ⟨by rw [labV, if_pos rfl], by rw [lbOk, labO_til rfl]; rfl⟩
theorem labV_no {sigs : List Sig} {x : ByteArray} (h : x ≠ ⟨#[126]⟩) (h2 : ¬ (1 ≤ (x.size : Int) - 1 ∧ (bAt x ((x.size : Int) - 1) = 43 ∨ bAt x ((x.size : Int) - 1) = 45))) : labV sigs x = ⟨0, false⟩ ∧ lbOk sigs x = false := by
  refine ⟨by rw [labV, if_neg h, if_neg h2], ?_⟩
  rw [lbOk, labO_no h fun h3 => h2 ⟨h3.1, h3.2.1⟩]; rfl
theorem labV_yes {sigs : List Sig} {x : ByteArray} (h : x ≠ ⟨#[126]⟩) (h1 : 1 ≤ (x.size : Int) - 1) (h2 : bAt x ((x.size : Int) - 1) = 43 ∨ bAt x ((x.size : Int) - 1) = 45) : labV sigs x = ⟨wSig sigs (x.extract 0 ((x.size : Int) - 1).toNat), decide (bAt x ((x.size : Int) - 1) = 43)⟩ ∧ lbOk sigs x = decide (0 ≤ wSig sigs (x.extract 0 ((x.size : Int) - 1).toNat)) := by
  refine ⟨by rw [labV, if_neg h, if_pos ⟨h1, h2⟩], ?_⟩
  by_cases h3 : 0 ≤ wSig sigs (x.extract 0 ((x.size : Int) - 1).toNat)
  · rw [lbOk, labO_yes h h1 h2 h3, decide_eq_true h3]; rfl
  · rw [lbOk, labO_no h (fun h4 => h3 h4.2.2), decide_eq_false (by omega)]; rfl

theorem labelOf_f (sigs : List Sig) (x : ByteArray) (hx : x.size ≤ 1048576) : FnG XW Tryz.prog 41 [.sh 2 (sigs.map dSig), .lit (.string x)] (.tup [.agg [.lit (.int .i64 (labV sigs x).sig), .lit (.bool (labV sigs x).up)], .lit (.bool (lbOk sigs x))]) [] := by
  refine FnG_ofE tabOk Tryz.func41 rfl (by kernel_rfl) rfl rfl ?_
  intro w0 A hX hin
  repeat' (first | refine goZ ?_ | refine R_callZ rfl (signalOf_f sigs _) rfl rfl rfl ?_ | refine R_callvZ rfl (signalOf_f sigs _) rfl rfl rfl rfl ?_ | refine D_callZ rfl (signalOf_f sigs _) rfl rfl rfl ?_ | ((first | refine R_cond rfl (fun hq => ?_) fun hq => ?_ | refine R_guardT rfl rfl rfl (fun hq => ?_) fun hq => ?_ | refine R_guardF rfl rfl rfl (fun hq => ?_) fun hq => ?_ | refine D_guardT rfl rfl rfl (fun hq => ?_) fun hq => ?_ | refine D_guardF rfl rfl rfl (fun hq => ?_) fun hq => ?_) <;> (try rw [hq]) <;> first | have hp := of_decide_eq_true hq | have hp := of_decide_eq_false hq | have hp := of_decide_eq_false (not_t hq) | have hp := of_decide_eq_true (not_f hq) | have hp := hq))
  · obtain ⟨e1, e2⟩ := labV_til (sigs := sigs) (x := x) (by assumption)
    exact .r (retE_lits rfl (by rw [e1]) (by rw [e1]) (by rw [e2]))
  · obtain ⟨e1, e2⟩ := labV_no (sigs := sigs) (x := x) (by assumption) (by rintro ⟨_, h | h⟩ <;> contradiction)
    exact .r (retE_lits rfl (by rw [e1]) (by rw [e1]) (by rw [e2]))
  · obtain ⟨e1, e2⟩ := labV_yes (sigs := sigs) (x := x) (by assumption) (by omega) (by first | exact Or.inl (by assumption) | exact Or.inr (by assumption))
    exact .r (retE_lits rfl (by rw [e1]; rfl) (by rw [e1]) (by rw [e2]; rfl))
  · obtain ⟨e1, e2⟩ := labV_yes (sigs := sigs) (x := x) (by assumption) (by omega) (by first | exact Or.inl (by assumption) | exact Or.inr (by assumption))
    exact .r (retE_lits rfl (by rw [e1]; rfl) (by rw [e1]) (by rw [e2]; rfl))
  · obtain ⟨e1, e2⟩ := labV_no (sigs := sigs) (x := x) (by assumption) (by rintro ⟨h, _⟩; omega)
    exact .r (retE_lits rfl (by rw [e1]) (by rw [e1]) (by rw [e2]))
/-- The numbers ahead of place k, where all are numbers. -/
theorem placesB_take {ws : List ByteArray} {k : Nat} (hk : k < ws.length) (h : ¬ 0 ≤ twoS (nth ws k)) : placesB ws = false := by
  rw [placesB, List.all_eq_false]
  exact ⟨_, nth_mem hk, by simpa using h⟩
theorem placesB_all {ws : List ByteArray} (h : ∀ j, j < ws.length → 0 ≤ twoS (nth ws j)) : placesB ws = true := by
  rw [placesB, List.all_eq_true]
  intro x hx
  obtain ⟨j, hj, rfl⟩ := List.getElem_of_mem hx
  have := h j hj
  rw [nth_get hj] at this
  simpa using this
theorem places_f (ws : List ByteArray) (hw : ∀ x ∈ ws, x.size ≤ 1048576) (hl : ws.length ≤ 1048576) : FnG XW Tryz.prog 42 [.sh 1 (strs ws)] (.tup [.own 0, .lit (.bool (placesB ws))]) [.arr 3 1 (ints (placesV ws)) true] := by
  refine FnG_of Tryz.func42 rfl (by kernel_rfl) rfl rfl ?_
  intro w0 A hX hin
  have hz := len_strs ws
  repeat' (first | refine goZ ?_ | ((first | refine R_cond rfl (fun hq => ?_) fun hq => ?_ | refine R_guardT rfl rfl rfl (fun hq => ?_) fun hq => ?_ | refine R_guardF rfl rfl rfl (fun hq => ?_) fun hq => ?_ | refine D_guardT rfl rfl rfl (fun hq => ?_) fun hq => ?_ | refine D_guardF rfl rfl rfl (fun hq => ?_) fun hq => ?_) <;> (try rw [hq]) <;> first | have hp := of_decide_eq_true hq | have hp := of_decide_eq_false hq | have hp := of_decide_eq_false (not_t hq) | have hp := of_decide_eq_true (not_f hq) | have hp := hq))
  refine W_loop (fun k : Nat => ⟨_, [(4, .own 0), (10, .sh 1 (strs ws)), (11, .lit (.int .i64 ws.length)), (12, .lit (.int .i64 k))], [.arr 3 1 (ints ((ws.take k).map twoS)) true]⟩) (fun k => k ≤ ws.length ∧ ∀ j, j < k → 0 ≤ twoS (nth ws j)) (fun k => ws.length - k) 0 ⟨Nat.zero_le _, by omega⟩ (weakZ []) ?_
  rintro k ⟨hk, hj⟩
  have hzi := len_ints ((ws.take k).map twoS)
  have hzt : ((ws.take k).map twoS).length ≤ ws.length := by rw [List.length_map, List.length_take]; omega
  rcases Nat.lt_or_ge k ws.length with hlt | hge
  · obtain ⟨v, hv1, hv2, hP⟩ := place_g (nth ws k) (hw _ (nth_mem hlt))
    repeat' (first | refine goZ ?_ | refine R_callG (fun _ h => hX.ext h) rfl hP rfl rfl rfl ?_ | ((first | refine R_cond rfl (fun hq => ?_) fun hq => ?_ | refine R_guardT rfl rfl rfl (fun hq => ?_) fun hq => ?_ | refine R_guardF rfl rfl rfl (fun hq => ?_) fun hq => ?_ | refine D_guardT rfl rfl rfl (fun hq => ?_) fun hq => ?_ | refine D_guardF rfl rfl rfl (fun hq => ?_) fun hq => ?_) <;> (try rw [hq]) <;> first | have hp := of_decide_eq_true hq | have hp := of_decide_eq_false hq | have hp := of_decide_eq_false (not_t hq) | have hp := of_decide_eq_true (not_f hq) | have hp := hq))
    · have e := placesB_take hlt hp
      exact ret_nil_lit rfl (by rw [placesV, e]; rfl) (by rw [e])
    · refine ⟨k + 1, ⟨by omega, fun j hj' => ?_⟩, by omega, ?_⟩
      · by_cases e : j = k
        · rw [e]; exact hp
        · exact hj j (by omega)
      · have e := hv2 hp
        simp only [take_nth hlt, List.map_append, List.map_cons, List.map_nil, ints_app, e]
        exact weakZ _
    · exfalso; omega
  · obtain rfl : k = ws.length := by omega
    have e := placesB_all hj
    repeat' (first | refine goZ ?_ | ((first | refine R_cond rfl (fun hq => ?_) fun hq => ?_ | refine R_guardT rfl rfl rfl (fun hq => ?_) fun hq => ?_ | refine R_guardF rfl rfl rfl (fun hq => ?_) fun hq => ?_ | refine D_guardT rfl rfl rfl (fun hq => ?_) fun hq => ?_ | refine D_guardF rfl rfl rfl (fun hq => ?_) fun hq => ?_) <;> (try rw [hq]) <;> first | have hp := of_decide_eq_true hq | have hp := of_decide_eq_false hq | have hp := of_decide_eq_false (not_t hq) | have hp := of_decide_eq_true (not_f hq) | have hp := hq))
    · exfalso; omega
    · exact ret_own_lit rfl rfl (by rw [placesV, e, List.take_of_length_le (Nat.le_refl _)]; rfl) (by rw [e])
theorem preW_mem {ws : List ByteArray} {x : ByteArray} (h : x ∈ preW ws) : x ∈ ws := List.mem_of_mem_take (List.mem_of_mem_drop h)
theorem postW_mem {ws : List ByteArray} {x : ByteArray} (h : x ∈ postW ws) : x ∈ ws := List.mem_of_mem_drop h
theorem preW_len (ws : List ByteArray) : (preW ws).length ≤ ws.length := by rw [preW, List.length_drop, List.length_take]; omega
theorem postW_len (ws : List ByteArray) : (postW ws).length ≤ ws.length := by rw [postW, List.length_drop]; omega
theorem strs_pre (ws : List ByteArray) : ((strs ws).take (gtIx ws).toNat).drop (Int.toNat 1) = strs (preW ws) := by
  simp only [strs, preW, List.map_drop, List.map_take]; rfl
theorem strs_post (ws : List ByteArray) : (strs ws).drop (gtIx ws + 1).toNat = strs (postW ws) := by
  simp only [strs, postW, List.map_drop]
set_option maxHeartbeats 4000000 in
theorem readTransition_f (sigs : List Sig) (line : ByteArray) (hl : line.size ≤ 4000) : FnG XW Tryz.prog 17 [.sh 2 (sigs.map dSig), .lit (.string line)] (.tup [.agg [.lit (.int .i64 (rtS sigs (splitS line 32)).lab.sig), .lit (.bool (rtS sigs (splitS line 32)).lab.up)], .agg [.own 0, .own 1], .lit (.bool (rtS sigs (splitS line 32)).ok)]) [.arr 3 1 (ints (rtS sigs (splitS line 32)).pre) true, .arr 3 1 (ints (rtS sigs (splitS line 32)).post) true] := by
  refine FnG_ofE tabOk Tryz.func17 rfl (by kernel_rfl) rfl rfl ?_
  intro w0 A hX hin
  have hS := Split_g line 32 (b := 32) rfl (by omega)
  have hp1 := splitS_pos line 32
  have hp2 := splitS_len line 32
  have hp3 : ∀ x ∈ splitS line 32, x.size ≤ 1048576 := fun x hx => by have := splitS_size hx; omega
  generalize splitS line 32 = ws at hS hp1 hp2 hp3 ⊢
  have hz := len_strs ws
  have hI := Index_Str_f ws ⟨#[62]⟩
  rw [show findIx (fun y => decide ((⟨#[62]⟩ : ByteArray) = y)) ws = gtIx ws from rfl] at hI
  have hg1 := findIx_ge (fun y => decide ((⟨#[62]⟩ : ByteArray) = y)) ws
  have hg2 := findIx_lt (fun y => decide ((⟨#[62]⟩ : ByteArray) = y)) ws
  rw [show findIx (fun y => decide ((⟨#[62]⟩ : ByteArray) = y)) ws = gtIx ws from rfl] at hg1 hg2
  have hg3 : ¬ gtIx ws < 1 → gtIx ws < ws.length := by
    intro h
    obtain ⟨k, k1, k2, _⟩ := findIx_spec (p := fun y => decide ((⟨#[62]⟩ : ByteArray) = y)) (l := ws) (by unfold gtIx at h; omega)
    unfold gtIx; omega
  have hL := labelOf_f sigs (nth ws 0) (hp3 _ (nth_mem (by omega)))
  have hP := places_f (preW ws) (fun x hx => hp3 x (preW_mem hx)) (by have := preW_len ws; omega)
  have hQ := places_f (postW ws) (fun x hx => hp3 x (postW_mem hx)) (by have := postW_len ws; omega)
  rw [← strs_pre] at hP
  rw [← strs_post] at hQ
  repeat' (first | refine goZ ?_ | refine R_callZ rfl (hI) rfl rfl rfl ?_ | refine R_callvZ rfl (hI) rfl rfl rfl rfl ?_ | refine R_callG (fun _ h => hX.ext h) rfl hS rfl rfl rfl ?_ | refine R_callG (fun _ h => hX.ext h) rfl hL rfl rfl rfl ?_ | refine R_callG (fun _ h => hX.ext h) rfl hP rfl rfl rfl ?_ | refine R_callG (fun _ h => hX.ext h) rfl hQ rfl rfl rfl ?_ | refine D_callZ rfl (hI) rfl rfl rfl ?_ | ((first | refine R_cond rfl (fun hq => ?_) fun hq => ?_ | refine R_guardT rfl rfl rfl (fun hq => ?_) fun hq => ?_ | refine R_guardF rfl rfl rfl (fun hq => ?_) fun hq => ?_ | refine D_guardT rfl rfl rfl (fun hq => ?_) fun hq => ?_ | refine D_guardF rfl rfl rfl (fun hq => ?_) fun hq => ?_) <;> (try rw [hq]) <;> first | have hp := of_decide_eq_true hq | have hp := of_decide_eq_false hq | have hp := of_decide_eq_false (not_t hq) | have hp := of_decide_eq_true (not_f hq) | have hp := hq))
  · have e := rtS_no (sigs := sigs) (ws := ws) (by rintro ⟨_, h⟩; omega)
    exact .r (retE_nils rfl (by rw [e]) (by rw [e]) (by rw [e]) (by rw [e]; rfl) (by rw [e]; rfl))
  · have e := rtS_yes (sigs := sigs) (ws := ws) (by simp_all) (by omega)
    exact .r (retE_rows rfl rfl rfl (by decide) (by rw [e]) (by rw [e]) (by rw [e]; simp_all) (by rw [e]) (by rw [e]))
  · have e := rtS_yes (sigs := sigs) (ws := ws) (by simp_all) (by omega)
    exact .r (retE_rows rfl rfl rfl (by decide) (by rw [e]) (by rw [e]) (by rw [e]; simp_all) (by rw [e]) (by rw [e]))
  · have e := rtS_no (sigs := sigs) (ws := ws) (by rintro ⟨h, _⟩; simp_all)
    exact .r (retE_nils rfl (by rw [e]) (by rw [e]) (by rw [e]) (by rw [e]; rfl) (by rw [e]; rfl))
end Go.Proofs.YtcpjhpjlcgcigaaGreatDoor
namespace Go.Proofs.YtcpjhpjlcgcigaaGreatDoor
open Go.ChangeShapes Go.WideShapes Go.ChangeAt Go.RowKit

theorem kwB_L {k : Nat} (h : k < 4) : kwB k = nth kwL k := by
  have : ∀ k, k < 4 → kwB k = nth kwL k := by decide
  exact this k h
set_option maxHeartbeats 4000000 in
theorem readSignals_f (ls : List ByteArray) (hz : ∀ x ∈ ls, x.size ≤ 4000) (hlen : ls.length ≤ 4001) : FnG XW Tryz.prog 14 [.sh 1 (strs ls)] (.tup [.own 0, .sh 1 (strs (ls.drop (rsN ls 3).c))]) [.arr 71 2 ((rsN ls 3).p.sigs.map dSig) true] := by
  refine FnG_of Tryz.func14 rfl (by kernel_rfl) rfl rfl ?_
  intro w0 A hX hin
  repeat' (first | refine goZ ?_ | ((first | refine R_cond rfl (fun hq => ?_) fun hq => ?_ | refine R_guardT rfl rfl rfl (fun hq => ?_) fun hq => ?_ | refine R_guardF rfl rfl rfl (fun hq => ?_) fun hq => ?_ | refine D_guardT rfl rfl rfl (fun hq => ?_) fun hq => ?_ | refine D_guardF rfl rfl rfl (fun hq => ?_) fun hq => ?_) <;> (try rw [hq]) <;> first | have hp := of_decide_eq_true hq | have hp := of_decide_eq_false hq | have hp := of_decide_eq_false (not_t hq) | have hp := of_decide_eq_true (not_f hq) | have hp := hq))
  refine W_loop (fun k : Nat => ⟨_, [(0, .sh 1 (strs (ls.drop (rsN ls k).c))), (4, .own 0), (5, .lit (.int .i64 (k + 1 : Nat)))], [.arr 71 2 ((rsN ls k).p.sigs.map dSig) true]⟩) (fun k => k ≤ 3) (fun k => 3 - k) 0 (Nat.zero_le _) (weakZ []) ?_
  intro k hk
  have hok := rsN_ok ls k hk
  have hb := linesS_b hz _ _ hok.le hok.lines
  have hsg := hb.sg
  have hck := hok.ck
  have hle := hok.le
  have hzl : (strs (ls.drop (rsN ls k).c)).length = ls.length - (rsN ls k).c := by rw [len_strs, List.length_drop]
  have hzd : (ls.drop (rsN ls k).c).length = ls.length - (rsN ls k).c := List.length_drop
  have hzs := len_dSig (rsN ls k).p.sigs
  rcases Nat.lt_or_ge (rsN ls k).c ls.length with hlt | hge
  · have hn0 : nth (ls.drop (rsN ls k).c) 0 = nth ls (rsN ls k).c := by
      rw [nth_get (by rw [List.length_drop]; omega), nth_get hlt, List.getElem_drop]; rfl
    have hx := hz _ (nth_mem hlt)
    have hcell := hX.kw (k + 1)
    have hks := kwB_size (k + 1)
    have hlit : litOk (.string (kwB (k + 1))) := show (kwB (k + 1)).size ≤ 9223372036854775807 by omega
    have e1 : (⟨#[32]⟩ : ByteArray).size = 1 := rfl
    have hC := CutPrefix_f (nth ls (rsN ls k).c) (kwB (k + 1)) (by omega)
    rw [← hn0] at hC
    have hsplit := splitS_len (nth ls (rsN ls k).c) 32
    have hwq : k < 3 → isKw (rsN ls k).p (splitS (nth ls (rsN ls k).c) 32) (k + 1) = hasW (nth (ls.drop (rsN ls k).c) 0) (kwB (k + 1)) := fun h => by rw [rsN_kw (by omega) hlt, hn0, kwB_L (by omega)]
    have hoff := offW_size (nth (ls.drop (rsN ls k).c) 0) (kwB (k + 1))
    rw [hn0] at hoff
    have hS := Split_g (offW (nth (ls.drop (rsN ls k).c) 0) (kwB (k + 1))) 32 (b := 32) rfl (by rw [hn0]; omega)
    rcases Nat.lt_or_ge k 3 with hk3 | hk3
    · have hcell := hcell (by omega)
      cases hh : hasW (nth (ls.drop (rsN ls k).c) 0) (kwB (k + 1))
      · rw [hh] at hC
        have hno := rsN_no (ls := ls) (k := k) (by rw [hwq hk3, hh]; simp)
        repeat' (first | refine W_held mixed [] ?_ | refine H_globIdx tabOk 1 (by exact rfl) (by exact rfl) rfl rfl trivial rfl Tryz.underlying69 rfl rfl (by omega) ?_ | refine H_globLoad tabOk 1 (by exact rfl) (by exact rfl) rfl rfl trivial rfl rfl hcell hlit rfl ?_ | refine go1 ?_ | refine goH ?_ | refine H_two (by exact rfl) (by exact rfl) (by exact rfl) (by exact rfl) (by exact rfl) ?_ ?_ | refine H_three (by exact rfl) (by exact rfl) (by exact rfl) (by exact rfl) (by exact rfl) (by exact rfl) (by exact rfl) ?_ ?_ ?_  | refine R_callZ rfl (hC) rfl rfl rfl ?_ | refine R_callvZ rfl (hC) rfl rfl rfl rfl ?_ | refine D_callZ rfl (hC) rfl rfl rfl ?_ | ((first | refine R_cond rfl (fun hq => ?_) fun hq => ?_ | refine R_guardT rfl rfl rfl (fun hq => ?_) fun hq => ?_ | refine R_guardF rfl rfl rfl (fun hq => ?_) fun hq => ?_ | refine D_guardT rfl rfl rfl (fun hq => ?_) fun hq => ?_ | refine D_guardF rfl rfl rfl (fun hq => ?_) fun hq => ?_) <;> (try rw [hq]) <;> first | have hp := of_decide_eq_true hq | have hp := of_decide_eq_false hq | have hp := of_decide_eq_false (not_t hq) | have hp := of_decide_eq_true (not_f hq) | have hp := hq) | refine W_held mixed [] ?_)
        all_goals try (exfalso; omega)
        refine ⟨k + 1, by omega, by omega, ?_⟩
        rw [hno]
        exact weakZ _
      · rw [hh] at hC
        have e3 : splitS (offW (nth (ls.drop (rsN ls k).c) 0) (kwB (k + 1))) 32 = (splitS (nth ls (rsN ls k).c) 32).drop 1 := by
          rw [offW_rest (by rw [kwB_L (by omega)]; exact kw_plain (by omega)) hh, hn0]
        rw [e3] at hS
        have hyes := rsN_yes (ls := ls) (k := k) hlt (by rw [hwq hk3, hh])
        have hzn : ((splitS (nth ls (rsN ls k).c) 32).drop 1).length ≤ 4001 := by rw [List.length_drop]; omega
        have hzn2 := len_strs ((splitS (nth ls (rsN ls k).c) 32).drop 1)
        repeat' (first | refine W_held mixed [] ?_ | refine H_globIdx tabOk 1 (by exact rfl) (by exact rfl) rfl rfl trivial rfl Tryz.underlying69 rfl rfl (by omega) ?_ | refine H_globLoad tabOk 1 (by exact rfl) (by exact rfl) rfl rfl trivial rfl rfl hcell hlit rfl ?_ | refine go1 ?_ | refine goH ?_ | refine H_two (by exact rfl) (by exact rfl) (by exact rfl) (by exact rfl) (by exact rfl) ?_ ?_ | refine H_three (by exact rfl) (by exact rfl) (by exact rfl) (by exact rfl) (by exact rfl) (by exact rfl) (by exact rfl) ?_ ?_ ?_  | refine R_callZ rfl (hC) rfl rfl rfl ?_ | refine R_callvZ rfl (hC) rfl rfl rfl rfl ?_ | refine R_callG (fun _ h => hX.ext h) rfl hS rfl rfl rfl ?_ | refine D_callZ rfl (hC) rfl rfl rfl ?_ | ((first | refine R_cond rfl (fun hq => ?_) fun hq => ?_ | refine R_guardT rfl rfl rfl (fun hq => ?_) fun hq => ?_ | refine R_guardF rfl rfl rfl (fun hq => ?_) fun hq => ?_ | refine D_guardT rfl rfl rfl (fun hq => ?_) fun hq => ?_ | refine D_guardF rfl rfl rfl (fun hq => ?_) fun hq => ?_) <;> (try rw [hq]) <;> first | have hp := of_decide_eq_true hq | have hp := of_decide_eq_false hq | have hp := of_decide_eq_false (not_t hq) | have hp := of_decide_eq_true (not_f hq) | have hp := hq) | refine W_held mixed [] ?_)
        all_goals try (exfalso; omega)
        refine W_loop (fun j : Nat => ⟨Tryz.f14.ntmps, [(0, .sh 1 (strs (ls.drop (rsN ls k).c))), (4, .own 0), (5, .lit (.int .i64 (k + 1 : Nat))), (34, .sh 1 (strs ((splitS (nth ls (rsN ls k).c) 32).drop 1))), (35, .lit (.int .i64 ((splitS (nth ls (rsN ls k).c) 32).drop 1).length)), (36, .lit (.int .i64 j))], [.arr 71 2 (((rsN ls k).p.sigs ++ (((splitS (nth ls (rsN ls k).c) 32).drop 1).take j).map fun n => (⟨n, (k + 1 : Nat)⟩ : Sig)).map dSig) true]⟩) (fun j => j ≤ ((splitS (nth ls (rsN ls k).c) 32).drop 1).length) (fun j => ((splitS (nth ls (rsN ls k).c) 32).drop 1).length - j) 0 (Nat.zero_le _) ?_ ?_
        · simp only [List.take_zero, List.map_nil, List.append_nil]
          exact weakZ _
        intro j hj
        have hzj : (((rsN ls k).p.sigs ++ (((splitS (nth ls (rsN ls k).c) 32).drop 1).take j).map fun n => (⟨n, (k + 1 : Nat)⟩ : Sig)).map dSig).length ≤ 20000000 := by
          rw [List.length_map, List.length_append, List.length_map, List.length_take]; omega
        have e2 : (strs (ls.drop (rsN ls k).c)).drop (Int.toNat 1) = strs (ls.drop ((rsN ls k).c + 1)) := by
          simp only [strs, ← List.map_drop, List.drop_drop]; rfl
        generalize hN : (splitS (nth ls (rsN ls k).c) 32).drop 1 = names at *
        rcases Nat.lt_or_ge j names.length with hjl | hjg
        · repeat' (first | refine goZ ?_ | ((first | refine R_cond rfl (fun hq => ?_) fun hq => ?_ | refine R_guardT rfl rfl rfl (fun hq => ?_) fun hq => ?_ | refine R_guardF rfl rfl rfl (fun hq => ?_) fun hq => ?_ | refine D_guardT rfl rfl rfl (fun hq => ?_) fun hq => ?_ | refine D_guardF rfl rfl rfl (fun hq => ?_) fun hq => ?_) <;> (try rw [hq]) <;> first | have hp := of_decide_eq_true hq | have hp := of_decide_eq_false hq | have hp := of_decide_eq_false (not_t hq) | have hp := of_decide_eq_true (not_f hq) | have hp := hq))
          all_goals try (exfalso; omega)
          refine ⟨j + 1, by omega, by omega, ?_⟩
          simp only [take_nth hjl, List.map_append, List.map_cons, List.map_nil, ← List.append_assoc]
          exact weakZ _
        · obtain rfl : j = names.length := by omega
          repeat' (first | refine goZ ?_ | ((first | refine R_cond rfl (fun hq => ?_) fun hq => ?_ | refine R_guardT rfl rfl rfl (fun hq => ?_) fun hq => ?_ | refine R_guardF rfl rfl rfl (fun hq => ?_) fun hq => ?_ | refine D_guardT rfl rfl rfl (fun hq => ?_) fun hq => ?_ | refine D_guardF rfl rfl rfl (fun hq => ?_) fun hq => ?_) <;> (try rw [hq]) <;> first | have hp := of_decide_eq_true hq | have hp := of_decide_eq_false hq | have hp := of_decide_eq_false (not_t hq) | have hp := of_decide_eq_true (not_f hq) | have hp := hq))
          all_goals try (exfalso; omega)
          refine ⟨k + 1, by omega, by omega, ?_⟩
          rw [hyes]
          simp only [wordP, hN, List.take_length, e2]
          exact weakZ _
    · repeat' (first | refine goZ ?_ | ((first | refine R_cond rfl (fun hq => ?_) fun hq => ?_ | refine R_guardT rfl rfl rfl (fun hq => ?_) fun hq => ?_ | refine R_guardF rfl rfl rfl (fun hq => ?_) fun hq => ?_ | refine D_guardT rfl rfl rfl (fun hq => ?_) fun hq => ?_ | refine D_guardF rfl rfl rfl (fun hq => ?_) fun hq => ?_) <;> (try rw [hq]) <;> first | have hp := of_decide_eq_true hq | have hp := of_decide_eq_false hq | have hp := of_decide_eq_false (not_t hq) | have hp := of_decide_eq_true (not_f hq) | have hp := hq))
      all_goals try (exfalso; omega)
      obtain rfl : k = 3 := by omega
      exact ret_own_shl rfl rfl rfl rfl
  · repeat' (first | refine goZ ?_ | ((first | refine R_cond rfl (fun hq => ?_) fun hq => ?_ | refine R_guardT rfl rfl rfl (fun hq => ?_) fun hq => ?_ | refine R_guardF rfl rfl rfl (fun hq => ?_) fun hq => ?_ | refine D_guardT rfl rfl rfl (fun hq => ?_) fun hq => ?_ | refine D_guardF rfl rfl rfl (fun hq => ?_) fun hq => ?_) <;> (try rw [hq]) <;> first | have hp := of_decide_eq_true hq | have hp := of_decide_eq_false hq | have hp := of_decide_eq_false (not_t hq) | have hp := of_decide_eq_true (not_f hq) | have hp := hq))
    all_goals try (exfalso; omega)
    all_goals
      have e := rsN_end (ls := ls) (k := k) (by omega) (3 - k)
      rw [show k + (3 - k) = 3 by omega] at e
      exact ret_own_shl rfl rfl (by rw [e]) (by rw [e])
end Go.Proofs.YtcpjhpjlcgcigaaGreatDoor
