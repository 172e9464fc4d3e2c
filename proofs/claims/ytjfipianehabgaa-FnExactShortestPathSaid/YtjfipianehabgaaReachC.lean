/- The first index of a string in a list, the reference's and the library's; what a valid reachability graph is. The program's isReach answers goodReach. The reference's l4Good answers goodReach. -/
import Derived.Test.YtjfipianehabgaaNetX
import Derived.Test.YtjfipianehabgaaSlices
import Derived.Maps.Own
import Derived.Maps.OwnSet
import Derived.Maps.Views
import Derived.StringKeys
set_option linter.unusedSimpArgs false
set_option linter.unusedVariables false
namespace Go.Proofs.Ytjfipianehabgaa
open Go.ChangeShapes Go.WideShapes Go.ChangeAt Go.RowKit

def strIx (l : List ByteArray) (s : ByteArray) : Int := findIx (fun x => decide (x = s)) l

theorem bytes_beq_false {a b : ByteArray} (h : ¬ a = b) : (a.toList == b.toList) = false := by rw [beq_eq_false_iff_ne]; exact fun e => h (bytes_ext e)

set_option maxHeartbeats 400000 in
theorem l4Find_c (w : World) (a : Option Addr) (c : Nat) (l : List ByteArray) (s : ByteArray) (h : (tSl tStr).R w l [.slice a l.length c]) :
    Calls Try.prog 168 #[.slice a l.length c, .string s] w fun e w' => e = .returned (.int .i64 (strIx l s)) ∧ Ext w w' := by
  have hn := R_len h
  obtain ⟨_, _, _, _, hs⟩ := R_sl.1 h
  clear h
  have HB : Hid (strIx l s = findIx (fun x => decide (x = s)) l) := Lib.hid rfl
  go_enter Try.func168, Try.ntmps168
  go_wp2
  go_loopw [9] (fun i wr => ∃ k : Nat, k ≤ l.length ∧ i = .int .i64 k ∧ (∀ j, j < k → (fun x => decide (x = s)) (nth l j) = false) ∧ Ext w wr) (fun i _ => l.length - (intOf i).toNat)
  case atStart => exact ⟨0, Nat.zero_le _, rfl, by omega, Ext.refl _⟩
  case round =>
    obtain ⟨k, hk, rfl, hj, hb⟩ := hrel
    have HJ := Lib.hid hj
    clear hj
    by_cases hlt : k < l.length
    · obtain ⟨b, o, rfl, hbs, hel⟩ := hs.get (by omega)
      have hc := (at_str ((hel k hlt).ext hb hbs)).1
      simp only [tStr, Nat.mul_one] at hc
      clear hel
      by_cases hq : nth l k = s
      · have HQ := Lib.hid (findIx_at (fun x => decide (x = s)) hlt HJ.out (by simp [hq]))
        rw [hq] at hc
        clear hq
        go_wp2
        go_ret
        exact ⟨ret_int (by rw [HB.out, HQ.out]), hb⟩
      · have HQ := Lib.hid hq
        have hz := bytes_beq_false hq
        clear hq
        go_wp2
        go_roundw
        case rel => exact ⟨k + 1, by omega, by go_num, fun j hj => by by_cases e : j = k; (rw [e]; simp [HQ.out]); exact HJ.out j (by omega), hb⟩
        case measure => simp [intOf]; omega
    · obtain rfl : k = l.length := by omega
      have HQ := Lib.hid (findIx_not (fun x => decide (x = s)) (all_nth HJ.out))
      go_wp2
      go_ret
      exact ⟨ret_int (by rw [HB.out, HQ.out]), hb⟩

/-- A reachability graph that is valid. -/
def goodMv (n : Int) (m : Mv) : Bool := decide (0 ≤ m.src ∧ m.src ≤ n - 1) && decide (0 ≤ m.dst ∧ m.dst ≤ n - 1) && decide (0 ≤ m.by_ ∧ m.by_ ≤ 23)
def goodReach (r : RGraph) : Bool := decide (1 ≤ (r.marks.length : Int) ∧ (r.marks.length : Int) ≤ 300) && decide r.marks.Nodup && decide (r.moves.length ≤ 4000) && r.moves.all (goodMv r.marks.length)
theorem goodMv_def (n : Int) (m : Mv) : goodMv n m = (decide (0 ≤ m.src ∧ m.src ≤ n - 1) && decide (0 ≤ m.dst ∧ m.dst ≤ n - 1) && decide (0 ≤ m.by_ ∧ m.by_ ≤ 23)) := rfl
theorem goodReach_def (r : RGraph) : goodReach r = (decide (1 ≤ (r.marks.length : Int) ∧ (r.marks.length : Int) ≤ 300) && decide r.marks.Nodup && decide (r.moves.length ≤ 4000) && r.moves.all (goodMv r.marks.length)) := rfl
theorem all_drop {α : Type} [Inhabited α] (p : α → Bool) {l : List α} {k : Nat} (h : k < l.length) : (l.drop k).all p = (p (nth l k) && (l.drop (k + 1)).all p) := by
  rw [drop_nth h, List.all_cons]
end Go.Proofs.Ytjfipianehabgaa
namespace Go.Proofs.Ytjfipianehabgaa
open Go.ChangeShapes Go.WideShapes Go.ChangeAt Go.RowKit Go.Maps

/-! A set of strings kept in a map: how many there are. -/
def strLit (s : ByteArray) : Lit := .string s.data.toList
def strSet (l : List ByteArray) : DataW Unit := setOf (.lit (.bool true)) (l.map strLit)
theorem strLit_same (a b : ByteArray) : (strLit a).sameKey (strLit b) = decide (a = b) := by
  unfold strLit Lit.sameKey
  rw [Bool.eq_iff_iff]
  simp only [beq_iff_eq, decide_eq_true_eq]
  constructor
  · intro h; cases a; cases b; simp at h; simp [h]
  · rintro rfl; rfl
theorem addKey_len : ∀ (l acc : List ByteArray), acc.Nodup → (((l.map strLit).foldl addKey (acc.map strLit)).length ≤ acc.length + l.length) ∧ (((l.map strLit).foldl addKey (acc.map strLit)).length = acc.length + l.length ↔ (acc ++ l).Nodup)
  | [], acc, h => by simp [h]
  | x :: l, acc, h => by
    rw [List.map_cons, List.foldl_cons]
    by_cases hx : x ∈ acc
    · have hany : ((acc.map strLit).any fun y => y.sameKey (strLit x)) = true := by
        rw [List.any_map, List.any_eq_true]; exact ⟨x, hx, by simp [strLit_same]⟩
      have ha : addKey (acc.map strLit) (strLit x) = acc.map strLit := by unfold addKey; rw [if_pos hany]
      rw [ha]
      obtain ⟨h1, _⟩ := addKey_len l acc h
      refine ⟨by simp only [List.length_cons]; omega, ⟨fun e => ?_, fun e => ?_⟩⟩
      · simp only [List.length_cons] at e; omega
      · rw [List.nodup_append] at e
        exact (e.2.2 x hx x (by simp) rfl).elim
    · have hany : ¬ ((acc.map strLit).any fun y => y.sameKey (strLit x)) = true := by
        rw [List.any_map, List.any_eq_true]; rintro ⟨y, hy, e⟩; simp only [Function.comp, strLit_same, decide_eq_true_eq] at e; exact hx (e ▸ hy)
      have ha : addKey (acc.map strLit) (strLit x) = (acc ++ [x]).map strLit := by unfold addKey; rw [if_neg hany]; simp
      rw [ha]
      have hn : (acc ++ [x]).Nodup := by
        rw [List.nodup_append]; exact ⟨h, by simp, fun a hm b hb e => by simp at hb; subst hb; subst e; exact hx hm⟩
      obtain ⟨h1, h2⟩ := addKey_len l (acc ++ [x]) hn
      simp only [List.length_append, List.length_cons, List.length_nil, List.append_assoc, List.cons_append, List.nil_append] at h1 h2
      exact ⟨by simp only [List.length_cons]; omega, by rw [← h2]; simp only [List.length_cons]; omega⟩
theorem strSet_size (l : List ByteArray) : ((Maps.size (strSet l) : Nat) = l.length) ↔ l.Nodup := by
  unfold strSet
  rw [size_setOf _ _ (by intro x hx; obtain ⟨s, _, rfl⟩ := List.mem_map.1 hx; trivial)]
  have := (addKey_len l [] (by simp)).2
  simpa using this
theorem strSet_snoc (l : List ByteArray) (s : ByteArray) : strSet (l ++ [s]) = (strSet l).put (strLit s) (.lit (.bool true)) := by
  unfold strSet; rw [List.map_append, List.map_cons, List.map_nil, setOf_snoc]

theorem ownsMap_ext {w w' : World} {P : Program} {k : TypeId} {R : Value → Option (DataW Unit × List MemPlace)} {b n : Nat} {D : DataW Unit} (h : w.ownsMap P k R b n D) (x : Ext w w') : w'.ownsMap P k R b n D := by
  obtain ⟨es, clock, h1, h2⟩ := h
  exact ⟨es, clock, by rw [x.heap (Array.getElem?_eq_some_iff.1 h1).1]; exact h1, h2⟩

theorem keyed_str : Keyed Try.prog 9 := string_keyed Try.underlying9

set_option maxHeartbeats 1600000 in
theorem isReach_c (w : World) (a0 : Option Addr) (c0 : Nat) (a1 : Option Addr) (c1 : Nat) (x : RGraph) (h : tRGraph.R w x [.slice a0 x.marks.length c0, .slice a1 x.moves.length c1]) :
    Calls Try.prog 85 #[.agg #[.slice a0 x.marks.length c0, .slice a1 x.moves.length c1]] w fun e w' => e = .returned (.bool (goodReach x)) ∧ Ext w w' := by
  obtain ⟨h0, h1⟩ := R_RGraph.1 h
  have hn0 := R_len h0
  have hn1 := R_len h1
  obtain ⟨_, _, _, _, hs0⟩ := R_sl.1 h0
  obtain ⟨_, _, _, _, hs1⟩ := R_sl.1 h1
  clear h h0 h1
  have HB := Lib.hid (goodReach_def x)
  have hE0 : Ext w (w.alloc (.cells #[.slice a0 x.marks.length c0, .slice a1 x.moves.length c1] 52)) := (Ext.refl w).alloc _
  have hb0 : (w.alloc (.cells #[.slice a0 x.marks.length c0, .slice a1 x.moves.length c1] 52)).cell? ⟨w.heap.size, 0, none⟩ = some (.slice a0 x.marks.length c0) := World.cell?_alloc_new _ _ _ _
  have hb1 : (w.alloc (.cells #[.slice a0 x.marks.length c0, .slice a1 x.moves.length c1] 52)).cell? ⟨w.heap.size, 1, none⟩ = some (.slice a1 x.moves.length c1) := World.cell?_alloc_new _ _ _ _
  have hm0 := @run_makeMap Try.prog
  go_enter Try.func85, Try.ntmps85
  go_wp2
  go_loopw [16] (fun i wr => ∃ k : Nat, k ≤ x.moves.length ∧ i = .int .i64 k ∧ x.moves.all (goodMv x.marks.length) = (x.moves.drop k).all (goodMv x.marks.length) ∧ Ext (w.alloc (.cells #[.slice a0 x.marks.length c0, .slice a1 x.moves.length c1] 52)) wr) (fun i _ => x.moves.length - (intOf i).toNat)
  case atStart => exact ⟨0, Nat.zero_le _, rfl, rfl, Ext.refl _⟩
  case round =>
    obtain ⟨k, hk, rfl, hr, hb⟩ := hrel
    have HR := Lib.hid hr
    clear hr
    by_cases hlt : k < x.moves.length
    · obtain ⟨b, o, rfl, hbs, hel⟩ := hs1.get (by omega)
      obtain ⟨_, hc0, hc1, hc2, hR⟩ := at_Mv ((hel k hlt).ext (hE0.trans hb) hbs)
      simp only [show tMv.n = 3 from rfl] at hc0 hc1 hc2
      clear hel hR hb0 hb1
      have HA := Lib.hid (all_drop (goodMv x.marks.length) hlt)
      have HG := Lib.hid (goodMv_def x.marks.length (nth x.moves k))
      go_wp2_with fail
      refine (within_c _ _ _ _).mono ?_
      rintro e w1 ⟨rfl, hx1⟩
      obtain ⟨hk1, hf1⟩ := hx1.cells
      simp only [World.size_alloc] at hk1 hf1
      have hE1 : Ext wr w1 := ((Ext.refl _).alloc _).trans hx1
      generalize hq : decide (0 ≤ (nth x.moves k).src ∧ (nth x.moves k).src ≤ (x.marks.length : Int) - 1) = q
      have HQ := Lib.hid hq
      clear hq
      cases q
      · go_wp2
        go_ret
        exact ⟨ret_bool (by rw [HB.out, HR.out, HA.out, HG.out, HQ.out]; simp), hE0.trans (hb.trans hE1)⟩
      · go_wp2_with fail
        refine (within_c _ _ _ _).mono ?_
        rintro e w2 ⟨rfl, hx2⟩
        obtain ⟨hk2, hf2⟩ := (hx1.trans hx2).cells
        simp only [World.size_alloc] at hk2 hf2
        have hE2 := hE1.trans hx2
        generalize hq : decide (0 ≤ (nth x.moves k).dst ∧ (nth x.moves k).dst ≤ (x.marks.length : Int) - 1) = q
        have HQ2 := Lib.hid hq
        clear hq hk1 hf1
        cases q
        · go_wp2
          go_ret
          exact ⟨ret_bool (by rw [HB.out, HR.out, HA.out, HG.out, HQ2.out]; simp), hE0.trans (hb.trans hE2)⟩
        · go_wp2_with fail
          refine (within_c _ _ _ _).mono ?_
          rintro e w3 ⟨rfl, hx3⟩
          have hE3 := hE2.trans hx3
          generalize hq : decide (0 ≤ (nth x.moves k).by_ ∧ (nth x.moves k).by_ ≤ 23) = q
          have HQ3 := Lib.hid hq
          clear hq hk2 hf2
          cases q
          · go_wp2
            go_ret
            exact ⟨ret_bool (by rw [HB.out, HR.out, HA.out, HG.out, HQ3.out]; simp), hE0.trans (hb.trans hE3)⟩
          · go_wp2
            go_roundw
            case rel => exact ⟨k + 1, by omega, by go_num, by rw [HR.out, HA.out, HG.out, HQ.out, HQ2.out, HQ3.out]; simp, hb.trans hE3⟩
            case measure => simp [intOf]; omega
    · obtain rfl : k = x.moves.length := by omega
      have hwb0 : wr.cell? ⟨w.heap.size, 0, none⟩ = some (.slice a0 x.marks.length c0) := by rw [hb.cell (lt_of_cell hb0)]; exact hb0
      have hwb1 : wr.cell? ⟨w.heap.size, 1, none⟩ = some (.slice a1 x.moves.length c1) := by rw [hb.cell (lt_of_cell hb1)]; exact hb1
      have hws := lt_of_cell hwb0
      clear hb0 hb1
      obtain ⟨wo, rfl⟩ : ∃ wo : World, wo = wr := ⟨_, rfl⟩
      have HE := Lib.hid (hE0.trans hb)
      have hown0 := World.ownsMap_made wo Try.prog 9 (plainElem (H := Unit) Try.prog 4)
      have HO := Lib.hid hown0
      clear hown0 hb
      go_wp2
      go_loopw [43] (fun i wr => ∃ k : Nat, k ≤ x.marks.length ∧ i = .int .i64 k ∧ wr.ownsMap Try.prog 9 (plainElem (H := Unit) Try.prog 4) wo.heap.size k (strSet (x.marks.take k)) ∧ Ext wo wr) (fun i _ => x.marks.length - (intOf i).toNat)
      case atStart => exact ⟨0, Nat.zero_le _, rfl, HO.out, (Ext.refl _).alloc _⟩
      case round =>
        obtain ⟨k, hk, rfl, hown, hb⟩ := hrel
        have HW := Lib.hid hown
        clear hown HO
        have hv0 : wr.cell? ⟨w.heap.size, 0, none⟩ = some (.slice a0 x.marks.length c0) := by rw [hb.cell hws]; exact hwb0
        have hv1 : wr.cell? ⟨w.heap.size, 1, none⟩ = some (.slice a1 x.moves.length c1) := by rw [hb.cell hws]; exact hwb1
        by_cases hlt : k < x.marks.length
        · obtain ⟨b, o, rfl, hbs, hel⟩ := hs0.get (by omega)
          obtain ⟨hc, hsz⟩ := at_str ((hel k hlt).ext (HE.out.trans hb) hbs)
          simp only [tStr, Nat.mul_one] at hc
          have hkey := WideMaps.keyOf_string_mk Try.underlying9 (s := nth x.marks k) (by unfold maxLen; omega)
          have HK := Lib.hid hkey
          have HT := Lib.hid (strSet_snoc (x.marks.take k) (nth x.marks k))
          have HN := Lib.hid (take_nth hlt)
          clear hel hkey
          go_wp2_with (at_mapUpdate; refine wpList_mapUpdate_own _ rfl _ _ _ 205 rfl 9 4 keyed_str Try.underlying205 _ wo.heap.size k _ rfl HW.out (by unfold maxLen; omega) _ _ _ rfl rfl HK.out _ [] (plainElem_bool Try.underlying4 true) ?_; intro w1 hown1 hgrow1)
          have HW1 := Lib.hid hown1
          have hb1 := Lib.hid (Below.grown hb hgrow1 hb.size (fun j e => by cases e; exact Nat.le_refl _))
          clear hown1 hgrow1
          go_wp2
          go_roundw
          case rel => exact ⟨k + 1, by omega, by go_num, by rw [HN.out, HT.out]; exact HW1.out, hb1.out⟩
          case measure => simp [intOf]; omega
        · obtain rfl : k = x.marks.length := by omega
          have HS := Lib.hid (strSet_size x.marks)
          have HW1 := HW.out
          rw [List.take_length] at HW1
          go_wp2_with fail
          refine (within_c _ _ _ _).mono ?_
          rintro e w2 ⟨rfl, hx2⟩
          have hu0 : w2.cell? ⟨w.heap.size, 0, none⟩ = some (.slice a0 x.marks.length c0) := by rw [hx2.cell (lt_of_cell hv0)]; exact hv0
          have hu1 : w2.cell? ⟨w.heap.size, 1, none⟩ = some (.slice a1 x.moves.length c1) := by rw [hx2.cell (lt_of_cell hv1)]; exact hv1
          have HW2 := Lib.hid (ownsMap_ext HW1 hx2)
          have HX2 := Lib.hid (HE.out.trans (hb.trans hx2))
          clear hv0 hv1 HW1
          generalize hq : decide (1 ≤ (x.marks.length : Int) ∧ (x.marks.length : Int) ≤ 300) = q
          have HQ := Lib.hid hq
          have HD : Hid (x.moves.all (goodMv x.marks.length) = true) := Lib.hid (by rw [HR.out, drop_len _ (Nat.le_refl _)]; rfl)
          clear hq
          cases q
          · go_wp2
            go_ret
            exact ⟨ret_bool (by rw [HB.out, HQ.out]; rfl), HX2.out⟩
          · by_cases hnd : x.marks.Nodup
            · have hz : (((Maps.size (strSet x.marks) : Nat) : Int) == (x.marks.length : Int)) = true := by rw [beq_iff_eq]; have := (strSet_size x.marks).2 hnd; omega
              have HN := Lib.hid hnd
              clear hnd
              have hlen := fun ty => HW2.out.len Try.underlying205 ty
              go_wp2
              go_ret
              exact ⟨ret_bool (by rw [HB.out, HQ.out, HD.out]; simp [HN.out]; omega), HX2.out⟩
            · have hz : (((Maps.size (strSet x.marks) : Nat) : Int) == (x.marks.length : Int)) = false := by rw [beq_eq_false_iff_ne]; intro e; exact hnd ((strSet_size x.marks).1 (by omega))
              have HN := Lib.hid hnd
              clear hnd
              have hlen := fun ty => HW2.out.len Try.underlying205 ty
              go_wp2
              go_ret
              exact ⟨ret_bool (by rw [HB.out]; simp [HN.out]), HX2.out⟩
end Go.Proofs.Ytjfipianehabgaa
namespace Go.Proofs.Ytjfipianehabgaa
open Go.ChangeShapes Go.WideShapes Go.ChangeAt Go.RowKit

theorem SlR.take {α : Type} [Inhabited α] {T : Ty α} {w : World} {a : Option Addr} {l : List α} (h : SlR T w a l) (k : Nat) : SlR T w a (l.take k) := by
  obtain ⟨bs, h | ⟨b, o, bss, ha, hb, hbs, hl, he⟩⟩ := h
  · obtain ⟨rfl, _⟩ := h; exact ⟨[], Or.inl ⟨by simp, rfl⟩⟩
  · refine ⟨b :: (bss.take k).flatten, Or.inr ⟨b, o, bss.take k, ha, hb, rfl, by simp [hl], fun i hi => ?_⟩⟩
    simp only [List.length_take] at hi
    have e1 : nth (l.take k) i = nth l i := by simp only [nth, List.getD_eq_getElem?_getD]; rw [List.getElem?_take, if_pos (by omega)]
    have e2 : nth (bss.take k) i = nth bss i := by simp only [nth, List.getD_eq_getElem?_getD]; rw [List.getElem?_take, if_pos (by omega)]
    rw [e1, e2]
    exact he i (by omega)
theorem mem_take_nth {l : List ByteArray} {k : Nat} {s : ByteArray} : (0 ≤ strIx (l.take k) s) ↔ s ∈ l.take k := by
  have := findIx_any (fun x => decide (x = s)) (l.take k)
  unfold strIx
  have h2 : (l.take k).any (fun x => decide (x = s)) = true ↔ s ∈ l.take k := by
    rw [List.any_eq_true]; exact ⟨fun ⟨x, hx, e⟩ => by simp at e; rw [← e]; exact hx, fun h => ⟨s, h, by simp⟩⟩
  rw [← h2, ← this]; simp
theorem nodup_iff_take {l : List ByteArray} : l.Nodup ↔ ∀ k, k < l.length → nth l k ∉ l.take k := by
  unfold List.Nodup
  rw [List.pairwise_iff_getElem]
  constructor
  · intro h k hk hm
    obtain ⟨j, hj, e⟩ := List.getElem_of_mem hm
    simp only [List.length_take] at hj
    rw [nth_get hk, List.getElem_take] at e
    exact h j k (by omega) hk (by omega) e
  · intro h i j hi hj hij e
    apply h j hj
    rw [nth_get hj, ← e, List.mem_take_iff_getElem]
    exact ⟨i, by omega, rfl⟩

set_option maxHeartbeats 1600000 in
theorem l4Good_c (w : World) (a0 : Option Addr) (c0 : Nat) (a1 : Option Addr) (c1 : Nat) (x : RGraph) (h : tRGraph.R w x [.slice a0 x.marks.length c0, .slice a1 x.moves.length c1]) :
    Calls Try.prog 80 #[.agg #[.slice a0 x.marks.length c0, .slice a1 x.moves.length c1]] w fun e w' => e = .returned (.bool (goodReach x)) ∧ Ext w w' := by
  obtain ⟨h0, h1⟩ := R_RGraph.1 h
  have hn0 := R_len h0
  have hn1 := R_len h1
  obtain ⟨_, hcap, hcap2, hnone, hs0⟩ := R_sl.1 h0
  obtain ⟨_, _, _, _, hs1⟩ := R_sl.1 h1
  clear h h0 h1
  have HB := Lib.hid (goodReach_def x)
  have hE0 : Ext w (w.alloc (.cells #[.slice a0 x.marks.length c0, .slice a1 x.moves.length c1] 52)) := (Ext.refl w).alloc _
  have hb0 : (w.alloc (.cells #[.slice a0 x.marks.length c0, .slice a1 x.moves.length c1] 52)).cell? ⟨w.heap.size, 0, none⟩ = some (.slice a0 x.marks.length c0) := World.cell?_alloc_new _ _ _ _
  have hb1 : (w.alloc (.cells #[.slice a0 x.marks.length c0, .slice a1 x.moves.length c1] 52)).cell? ⟨w.heap.size, 1, none⟩ = some (.slice a1 x.moves.length c1) := World.cell?_alloc_new _ _ _ _
  go_enter Try.func80, Try.ntmps80
  go_wp2_with fail
  refine (l1In_c _ _ _ _).mono ?_
  rintro e w1 ⟨rfl, hx1⟩
  have hu0 : w1.cell? ⟨w.heap.size, 0, none⟩ = some (.slice a0 x.marks.length c0) := by rw [hx1.cell (lt_of_cell hb0)]; exact hb0
  have hu1 : w1.cell? ⟨w.heap.size, 1, none⟩ = some (.slice a1 x.moves.length c1) := by rw [hx1.cell (lt_of_cell hb1)]; exact hb1
  have HE1 := Lib.hid (hE0.trans hx1)
  have hws := lt_of_cell hu0
  clear hb0 hb1 hx1 hE0
  generalize hq : decide (1 ≤ (x.marks.length : Int) ∧ (x.marks.length : Int) ≤ 300) = q
  have HQ := Lib.hid hq
  clear hq
  cases q
  · go_wp2
    go_ret
    exact ⟨ret_bool (by rw [HB.out, HQ.out]; rfl), HE1.out⟩
  · by_cases hlen : x.moves.length ≤ 4000
    · have HL := Lib.hid (show decide (x.moves.length ≤ 4000) = true by simp [hlen])
      go_wp2
      go_loopw [21] (fun i wr => ∃ k : Nat, k ≤ x.marks.length ∧ i = .int .i64 k ∧ (∀ j, j < k → nth x.marks j ∉ x.marks.take j) ∧ Ext w1 wr) (fun i _ => x.marks.length - (intOf i).toNat)
      case atStart => exact ⟨0, Nat.zero_le _, rfl, by omega, Ext.refl _⟩
      case round =>
        obtain ⟨k, hk, rfl, hj, hb⟩ := hrel
        have HJ := Lib.hid hj
        clear hj
        have hv0 : wr.cell? ⟨w.heap.size, 0, none⟩ = some (.slice a0 x.marks.length c0) := by rw [hb.cell hws]; exact hu0
        have hv1 : wr.cell? ⟨w.heap.size, 1, none⟩ = some (.slice a1 x.moves.length c1) := by rw [hb.cell hws]; exact hu1
        by_cases hlt : k < x.marks.length
        · obtain ⟨b, o, rfl, hbs, hel⟩ := hs0.get (by omega)
          have hc := (at_str ((hel k hlt).ext (HE1.out.trans hb) hbs)).1
          simp only [tStr, Nat.mul_one] at hc
          have HT : Hid ((tSl tStr).R wr (x.marks.take k) [.slice (some ⟨b, o, none⟩) (x.marks.take k).length c0]) :=
            Lib.hid (R_sl.2 ⟨rfl, by simp; omega, hcap2, hnone, (hs0.ext (HE1.out.trans hb)).take k⟩)
          have HLt : Hid ((x.marks.take k).length = k) := Lib.hid (by simp; omega)
          have HM := Lib.hid (mem_take_nth (l := x.marks) (k := k) (s := nth x.marks k))
          clear hel hnone hcap2
          have hcall := l4Find_c wr _ _ (x.marks.take k) (nth x.marks k) HT.out
          rw [HLt.out] at hcall
          have HC := Lib.hid hcall
          clear hcall
          go_wp2_with fail
          refine HC.out.mono ?_
          rintro e w2 ⟨rfl, hx2⟩
          have HX2 := Lib.hid (hb.trans hx2)
          generalize strIx (x.marks.take k) (nth x.marks k) = z at *
          by_cases hz : 0 ≤ z
          · have HD : Hid (decide x.marks.Nodup = false) := Lib.hid (by rw [decide_eq_false_iff_not, nodup_iff_take]; exact fun h => h k hlt (HM.out.1 hz))
            go_wp2
            go_ret
            exact ⟨ret_bool (by rw [HB.out, HD.out]; simp), HE1.out.trans HX2.out⟩
          · have HD := Lib.hid (fun h => hz (HM.out.2 h))
            go_wp2
            go_roundw
            case rel => exact ⟨k + 1, by omega, by go_num, fun j hj => by by_cases e : j = k; (rw [e]; exact HD.out); exact HJ.out j (by omega), HX2.out⟩
            case measure => simp [intOf]; omega
        · obtain rfl : k = x.marks.length := by omega
          have HN : Hid (decide x.marks.Nodup = true) := Lib.hid (by rw [decide_eq_true_eq, nodup_iff_take]; exact HJ.out)
          obtain ⟨wo, rfl⟩ : ∃ wo : World, wo = wr := ⟨_, rfl⟩
          have HE2 := Lib.hid (HE1.out.trans hb)
          have hwt := lt_of_cell hv0
          clear hb hu0 hu1
          go_wp2
          go_loopw [37] (fun i wr => ∃ k : Nat, k ≤ x.moves.length ∧ i = .int .i64 k ∧ x.moves.all (goodMv x.marks.length) = (x.moves.drop k).all (goodMv x.marks.length) ∧ Ext wo wr) (fun i _ => x.moves.length - (intOf i).toNat)
          case atStart => exact ⟨0, Nat.zero_le _, rfl, rfl, Ext.refl _⟩
          case round =>
            obtain ⟨k, hk, rfl, hr, hb⟩ := hrel
            have HR := Lib.hid hr
            clear hr
            have hy0 : wr.cell? ⟨w.heap.size, 0, none⟩ = some (.slice a0 x.marks.length c0) := by rw [hb.cell hwt]; exact hv0
            by_cases hlt : k < x.moves.length
            · obtain ⟨b, o, rfl, hbs, hel⟩ := hs1.get (by omega)
              obtain ⟨_, hc0, hc1, hc2, hR⟩ := at_Mv ((hel k hlt).ext (HE2.out.trans hb) hbs)
              simp only [show tMv.n = 3 from rfl] at hc0 hc1 hc2
              have hwu := lt_of_cell hy0
              have hwu1 : w.heap.size < wr.heap.size + 1 := by omega
              clear hel hR hv0 hv1
              have HA := Lib.hid (all_drop (goodMv x.marks.length) hlt)
              have HG := Lib.hid (goodMv_def x.marks.length (nth x.moves k))
              go_wp2_with fail
              refine (l1In_c _ _ _ _).mono ?_
              rintro e w3 ⟨rfl, hx3⟩
              obtain ⟨hk3, hf3⟩ := hx3.cells
              simp only [World.size_alloc] at hk3 hf3
              have HE3 := Lib.hid (hb.trans (((Ext.refl _).alloc _).trans hx3))
              generalize hq : decide (0 ≤ (nth x.moves k).src ∧ (nth x.moves k).src ≤ (x.marks.length : Int) - 1) = q
              have HQ1 := Lib.hid hq
              clear hq
              cases q
              · go_wp2
                go_ret
                exact ⟨ret_bool (by rw [HB.out, HR.out, HA.out, HG.out, HQ1.out]; simp), HE2.out.trans HE3.out⟩
              · go_wp2_with fail
                refine (l1In_c _ _ _ _).mono ?_
                rintro e w4 ⟨rfl, hx4⟩
                obtain ⟨hk4, hf4⟩ := (hx3.trans hx4).cells
                simp only [World.size_alloc] at hk4 hf4
                have HE4 := Lib.hid (HE3.out.trans hx4)
                generalize hq : decide (0 ≤ (nth x.moves k).dst ∧ (nth x.moves k).dst ≤ (x.marks.length : Int) - 1) = q
                have HQ2 := Lib.hid hq
                clear hq hk3 hf3
                cases q
                · go_wp2
                  go_ret
                  exact ⟨ret_bool (by rw [HB.out, HR.out, HA.out, HG.out, HQ2.out]; simp), HE2.out.trans HE4.out⟩
                · go_wp2_with fail
                  refine (l1In_c _ _ _ _).mono ?_
                  rintro e w5 ⟨rfl, hx5⟩
                  have HE5 := Lib.hid (HE4.out.trans hx5)
                  generalize hq : decide (0 ≤ (nth x.moves k).by_ ∧ (nth x.moves k).by_ ≤ 23) = q
                  have HQ3 := Lib.hid hq
                  clear hq hk4 hf4
                  cases q
                  · go_wp2
                    go_ret
                    exact ⟨ret_bool (by rw [HB.out, HR.out, HA.out, HG.out, HQ3.out]; simp), HE2.out.trans HE5.out⟩
                  · go_wp2
                    go_roundw
                    case rel => exact ⟨k + 1, by omega, by go_num, by rw [HR.out, HA.out, HG.out, HQ1.out, HQ2.out, HQ3.out]; simp, HE5.out⟩
                    case measure => simp [intOf]; omega
            · obtain rfl : k = x.moves.length := by omega
              go_wp2
              go_ret
              exact ⟨ret_bool (by rw [HB.out, HQ.out, HN.out, HL.out, HR.out, drop_len _ (Nat.le_refl _)]; rfl), HE2.out.trans hb⟩
    · have HL := Lib.hid (show decide (x.moves.length ≤ 4000) = false by simp; omega)
      go_wp2
      go_ret
      exact ⟨ret_bool (by rw [HB.out, HL.out]; simp), HE1.out⟩
end Go.Proofs.Ytjfipianehabgaa
