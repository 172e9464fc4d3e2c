/- The program's isReach answers goodReach. -/
import Derived.Test.YtidfmgahnmpcdaaReachA
import Derived.Maps.Own
import Derived.Maps.OwnSet
import Derived.Maps.Views
import Derived.StringKeys
set_option linter.unusedSimpArgs false
set_option linter.unusedVariables false
namespace Go.Proofs.Ytidfmgahnmpcdaa
open Go.ChangeShapes Go.WideShapes Go.ChangeAt Go.RowKit Go.Maps

/-! A set of strings kept in a map: how many there are. -/
def strLit (s : ByteArray) : Lit := .string s.data.toList
def strSet (l : List ByteArray) : DataW Unit := setOf (.lit (.bool true)) (l.map strLit)
theorem strLit_same (a b : ByteArray) : (strLit a).sameKey (strLit b) = decide (a = b) := by
  unfold strLit Lit.sameKey
  rw [Bool.eq_iff_iff]
  simp only [beq_iff_eq, decide_eq_true_eq]
  constructor
  · intro h; cases a; cases b; simp at h; simp [h]
  · rintro rfl; rfl
theorem addKey_len : ∀ (l acc : List ByteArray), acc.Nodup → (((l.map strLit).foldl addKey (acc.map strLit)).length ≤ acc.length + l.length) ∧ (((l.map strLit).foldl addKey (acc.map strLit)).length = acc.length + l.length ↔ (acc ++ l).Nodup)
  | [], acc, h => by simp [h]
  | x :: l, acc, h => by
    rw [List.map_cons, List.foldl_cons]
    by_cases hx : x ∈ acc
    · have hany : ((acc.map strLit).any fun y => y.sameKey (strLit x)) = true := by
        rw [List.any_map, List.any_eq_true]; exact ⟨x, hx, by simp [strLit_same]⟩
      have ha : addKey (acc.map strLit) (strLit x) = acc.map strLit := by unfold addKey; rw [if_pos hany]
      rw [ha]
      obtain ⟨h1, _⟩ := addKey_len l acc h
      refine ⟨by simp only [List.length_cons]; omega, ⟨fun e => ?_, fun e => ?_⟩⟩
      · simp only [List.length_cons] at e; omega
      · rw [List.nodup_append] at e
        exact (e.2.2 x hx x (by simp) rfl).elim
    · have hany : ¬ ((acc.map strLit).any fun y => y.sameKey (strLit x)) = true := by
        rw [List.any_map, List.any_eq_true]; rintro ⟨y, hy, e⟩; simp only [Function.comp, strLit_same, decide_eq_true_eq] at e; exact hx (e ▸ hy)
      have ha : addKey (acc.map strLit) (strLit x) = (acc ++ [x]).map strLit := by unfold addKey; rw [if_neg hany]; simp
      rw [ha]
      have hn : (acc ++ [x]).Nodup := by
        rw [List.nodup_append]; exact ⟨h, by simp, fun a hm b hb e => by simp at hb; subst hb; subst e; exact hx hm⟩
      obtain ⟨h1, h2⟩ := addKey_len l (acc ++ [x]) hn
      simp only [List.length_append, List.length_cons, List.length_nil, List.append_assoc, List.cons_append, List.nil_append] at h1 h2
      exact ⟨by simp only [List.length_cons]; omega, by rw [← h2]; simp only [List.length_cons]; omega⟩
theorem strSet_size (l : List ByteArray) : ((Maps.size (strSet l) : Nat) = l.length) ↔ l.Nodup := by
  unfold strSet
  rw [size_setOf _ _ (by intro x hx; obtain ⟨s, _, rfl⟩ := List.mem_map.1 hx; trivial)]
  have := (addKey_len l [] (by simp)).2
  simpa using this
theorem strSet_snoc (l : List ByteArray) (s : ByteArray) : strSet (l ++ [s]) = (strSet l).put (strLit s) (.lit (.bool true)) := by
  unfold strSet; rw [List.map_append, List.map_cons, List.map_nil, setOf_snoc]

theorem ownsMap_ext {w w' : World} {P : Program} {k : TypeId} {R : Value → Option (DataW Unit × List MemPlace)} {b n : Nat} {D : DataW Unit} (h : w.ownsMap P k R b n D) (x : Ext w w') : w'.ownsMap P k R b n D := by
  obtain ⟨es, clock, h1, h2⟩ := h
  exact ⟨es, clock, by rw [x.heap (Array.getElem?_eq_some_iff.1 h1).1]; exact h1, h2⟩

theorem keyed_str : Keyed Try.prog 9 := string_keyed Try.underlying9

set_option maxHeartbeats 1600000 in
theorem isReach_c (w : World) (a0 : Option Addr) (c0 : Nat) (a1 : Option Addr) (c1 : Nat) (x : RGraph) (h : tRGraph.R w x [.slice a0 x.marks.length c0, .slice a1 x.moves.length c1]) :
    Calls Try.prog 58 #[.agg #[.slice a0 x.marks.length c0, .slice a1 x.moves.length c1]] w fun e w' => e = .returned (.bool (goodReach x)) ∧ Ext w w' := by
  obtain ⟨h0, h1⟩ := R_RGraph.1 h
  have hn0 := R_len h0
  have hn1 := R_len h1
  obtain ⟨_, _, _, _, hs0⟩ := R_sl.1 h0
  obtain ⟨_, _, _, _, hs1⟩ := R_sl.1 h1
  clear h h0 h1
  have HB := Lib.hid (goodReach_def x)
  have hE0 : Ext w (w.alloc (.cells #[.slice a0 x.marks.length c0, .slice a1 x.moves.length c1] 31)) := (Ext.refl w).alloc _
  have hb0 : (w.alloc (.cells #[.slice a0 x.marks.length c0, .slice a1 x.moves.length c1] 31)).cell? ⟨w.heap.size, 0, none⟩ = some (.slice a0 x.marks.length c0) := World.cell?_alloc_new _ _ _ _
  have hb1 : (w.alloc (.cells #[.slice a0 x.marks.length c0, .slice a1 x.moves.length c1] 31)).cell? ⟨w.heap.size, 1, none⟩ = some (.slice a1 x.moves.length c1) := World.cell?_alloc_new _ _ _ _
  have hm0 := @run_makeMap Try.prog
  go_enter Try.func58, Try.ntmps58
  go_wp2
  go_loopw [16] (fun i wr => ∃ k : Nat, k ≤ x.moves.length ∧ i = .int .i64 k ∧ x.moves.all (goodMv x.marks.length) = (x.moves.drop k).all (goodMv x.marks.length) ∧ Ext (w.alloc (.cells #[.slice a0 x.marks.length c0, .slice a1 x.moves.length c1] 31)) wr) (fun i _ => x.moves.length - (intOf i).toNat)
  case atStart => exact ⟨0, Nat.zero_le _, rfl, rfl, Ext.refl _⟩
  case round =>
    obtain ⟨k, hk, rfl, hr, hb⟩ := hrel
    have HR := Lib.hid hr
    clear hr
    by_cases hlt : k < x.moves.length
    · obtain ⟨b, o, rfl, hbs, hel⟩ := hs1.get (by omega)
      obtain ⟨_, hc0, hc1, hc2, hR⟩ := at_Mv ((hel k hlt).ext (hE0.trans hb) hbs)
      simp only [show tMv.n = 3 from rfl] at hc0 hc1 hc2
      clear hel hR hb0 hb1
      have HA := Lib.hid (all_drop (goodMv x.marks.length) hlt)
      have HG := Lib.hid (goodMv_def x.marks.length (nth x.moves k))
      go_wp2_with fail
      refine (within_c _ _ _ _).mono ?_
      rintro e w1 ⟨rfl, hx1⟩
      obtain ⟨hk1, hf1⟩ := hx1.cells
      simp only [World.size_alloc] at hk1 hf1
      have hE1 : Ext wr w1 := ((Ext.refl _).alloc _).trans hx1
      generalize hq : decide (0 ≤ (nth x.moves k).src ∧ (nth x.moves k).src ≤ (x.marks.length : Int) - 1) = q
      have HQ := Lib.hid hq
      clear hq
      cases q
      · go_wp2
        go_ret
        exact ⟨ret_bool (by rw [HB.out, HR.out, HA.out, HG.out, HQ.out]; simp), hE0.trans (hb.trans hE1)⟩
      · go_wp2_with fail
        refine (within_c _ _ _ _).mono ?_
        rintro e w2 ⟨rfl, hx2⟩
        obtain ⟨hk2, hf2⟩ := (hx1.trans hx2).cells
        simp only [World.size_alloc] at hk2 hf2
        have hE2 := hE1.trans hx2
        generalize hq : decide (0 ≤ (nth x.moves k).dst ∧ (nth x.moves k).dst ≤ (x.marks.length : Int) - 1) = q
        have HQ2 := Lib.hid hq
        clear hq hk1 hf1
        cases q
        · go_wp2
          go_ret
          exact ⟨ret_bool (by rw [HB.out, HR.out, HA.out, HG.out, HQ2.out]; simp), hE0.trans (hb.trans hE2)⟩
        · go_wp2_with fail
          refine (within_c _ _ _ _).mono ?_
          rintro e w3 ⟨rfl, hx3⟩
          have hE3 := hE2.trans hx3
          generalize hq : decide (0 ≤ (nth x.moves k).by_ ∧ (nth x.moves k).by_ ≤ 23) = q
          have HQ3 := Lib.hid hq
          clear hq hk2 hf2
          cases q
          · go_wp2
            go_ret
            exact ⟨ret_bool (by rw [HB.out, HR.out, HA.out, HG.out, HQ3.out]; simp), hE0.trans (hb.trans hE3)⟩
          · go_wp2
            go_roundw
            case rel => exact ⟨k + 1, by omega, by go_num, by rw [HR.out, HA.out, HG.out, HQ.out, HQ2.out, HQ3.out]; simp, hb.trans hE3⟩
            case measure => simp [intOf]; omega
    · obtain rfl : k = x.moves.length := by omega
      have hwb0 : wr.cell? ⟨w.heap.size, 0, none⟩ = some (.slice a0 x.marks.length c0) := by rw [hb.cell (lt_of_cell hb0)]; exact hb0
      have hwb1 : wr.cell? ⟨w.heap.size, 1, none⟩ = some (.slice a1 x.moves.length c1) := by rw [hb.cell (lt_of_cell hb1)]; exact hb1
      have hws := lt_of_cell hwb0
      clear hb0 hb1
      obtain ⟨wo, rfl⟩ : ∃ wo : World, wo = wr := ⟨_, rfl⟩
      have HE := Lib.hid (hE0.trans hb)
      have hown0 := World.ownsMap_made wo Try.prog 9 (plainElem (H := Unit) Try.prog 4)
      have HO := Lib.hid hown0
      clear hown0 hb
      go_wp2
      go_loopw [43] (fun i wr => ∃ k : Nat, k ≤ x.marks.length ∧ i = .int .i64 k ∧ wr.ownsMap Try.prog 9 (plainElem (H := Unit) Try.prog 4) wo.heap.size k (strSet (x.marks.take k)) ∧ Ext wo wr) (fun i _ => x.marks.length - (intOf i).toNat)
      case atStart => exact ⟨0, Nat.zero_le _, rfl, HO.out, (Ext.refl _).alloc _⟩
      case round =>
        obtain ⟨k, hk, rfl, hown, hb⟩ := hrel
        have HW := Lib.hid hown
        clear hown HO
        have hv0 : wr.cell? ⟨w.heap.size, 0, none⟩ = some (.slice a0 x.marks.length c0) := by rw [hb.cell hws]; exact hwb0
        have hv1 : wr.cell? ⟨w.heap.size, 1, none⟩ = some (.slice a1 x.moves.length c1) := by rw [hb.cell hws]; exact hwb1
        by_cases hlt : k < x.marks.length
        · obtain ⟨b, o, rfl, hbs, hel⟩ := hs0.get (by omega)
          obtain ⟨hc, hsz⟩ := at_str ((hel k hlt).ext (HE.out.trans hb) hbs)
          simp only [tStr, Nat.mul_one] at hc
          have hkey := WideMaps.keyOf_string_mk Try.underlying9 (s := nth x.marks k) (by unfold maxLen; omega)
          have HK := Lib.hid hkey
          have HT := Lib.hid (strSet_snoc (x.marks.take k) (nth x.marks k))
          have HN := Lib.hid (take_nth hlt)
          clear hel hkey
          go_wp2_with (at_mapUpdate; refine wpList_mapUpdate_own _ rfl _ _ _ 157 rfl 9 4 keyed_str Try.underlying157 _ wo.heap.size k _ rfl HW.out (by unfold maxLen; omega) _ _ _ rfl rfl HK.out _ [] (plainElem_bool Try.underlying4 true) ?_; intro w1 hown1 hgrow1)
          have HW1 := Lib.hid hown1
          have hb1 := Lib.hid (Below.grown hb hgrow1 hb.size (fun j e => by cases e; exact Nat.le_refl _))
          clear hown1 hgrow1
          go_wp2
          go_roundw
          case rel => exact ⟨k + 1, by omega, by go_num, by rw [HN.out, HT.out]; exact HW1.out, hb1.out⟩
          case measure => simp [intOf]; omega
        · obtain rfl : k = x.marks.length := by omega
          have HS := Lib.hid (strSet_size x.marks)
          have HW1 := HW.out
          rw [List.take_length] at HW1
          go_wp2_with fail
          refine (within_c _ _ _ _).mono ?_
          rintro e w2 ⟨rfl, hx2⟩
          have hu0 : w2.cell? ⟨w.heap.size, 0, none⟩ = some (.slice a0 x.marks.length c0) := by rw [hx2.cell (lt_of_cell hv0)]; exact hv0
          have hu1 : w2.cell? ⟨w.heap.size, 1, none⟩ = some (.slice a1 x.moves.length c1) := by rw [hx2.cell (lt_of_cell hv1)]; exact hv1
          have HW2 := Lib.hid (ownsMap_ext HW1 hx2)
          have HX2 := Lib.hid (HE.out.trans (hb.trans hx2))
          clear hv0 hv1 HW1
          generalize hq : decide (1 ≤ (x.marks.length : Int) ∧ (x.marks.length : Int) ≤ 300) = q
          have HQ := Lib.hid hq
          have HD : Hid (x.moves.all (goodMv x.marks.length) = true) := Lib.hid (by rw [HR.out, drop_len _ (Nat.le_refl _)]; rfl)
          clear hq
          cases q
          · go_wp2
            go_ret
            exact ⟨ret_bool (by rw [HB.out, HQ.out]; rfl), HX2.out⟩
          · by_cases hnd : x.marks.Nodup
            · have hz : (((Maps.size (strSet x.marks) : Nat) : Int) == (x.marks.length : Int)) = true := by rw [beq_iff_eq]; have := (strSet_size x.marks).2 hnd; omega
              have HN := Lib.hid hnd
              clear hnd
              have hlen := fun ty => HW2.out.len Try.underlying157 ty
              go_wp2
              go_ret
              exact ⟨ret_bool (by rw [HB.out, HQ.out, HD.out]; simp [HN.out]; omega), HX2.out⟩
            · have hz : (((Maps.size (strSet x.marks) : Nat) : Int) == (x.marks.length : Int)) = false := by rw [beq_eq_false_iff_ne]; intro e; exact hnd ((strSet_size x.marks).1 (by omega))
              have HN := Lib.hid hnd
              clear hnd
              have hlen := fun ty => HW2.out.len Try.underlying157 ty
              go_wp2
              go_ret
              exact ⟨ret_bool (by rw [HB.out]; simp [HN.out]), HX2.out⟩
end Go.Proofs.Ytidfmgahnmpcdaa
