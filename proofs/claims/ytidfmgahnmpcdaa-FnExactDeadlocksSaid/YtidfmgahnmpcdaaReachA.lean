/- The first index of a string in a list, the reference's and the library's; what a valid reachability graph is. -/
import Derived.Test.YtidfmgahnmpcdaaNetV
import Derived.Test.YtidfmgahnmpcdaaSlices
set_option linter.unusedSimpArgs false
set_option linter.unusedVariables false
namespace Go.Proofs.Ytidfmgahnmpcdaa
open Go.ChangeShapes Go.WideShapes Go.ChangeAt Go.RowKit

def strIx (l : List ByteArray) (s : ByteArray) : Int := findIx (fun x => decide (x = s)) l

theorem bytes_beq_false {a b : ByteArray} (h : ¬ a = b) : (a.toList == b.toList) = false := by rw [beq_eq_false_iff_ne]; exact fun e => h (bytes_ext e)

set_option maxHeartbeats 400000 in
theorem l4Find_c (w : World) (a : Option Addr) (c : Nat) (l : List ByteArray) (s : ByteArray) (h : (tSl tStr).R w l [.slice a l.length c]) :
    Calls Try.prog 117 #[.slice a l.length c, .string s] w fun e w' => e = .returned (.int .i64 (strIx l s)) ∧ Ext w w' := by
  have hn := R_len h
  obtain ⟨_, _, _, _, hs⟩ := R_sl.1 h
  clear h
  have HB : Hid (strIx l s = findIx (fun x => decide (x = s)) l) := Lib.hid rfl
  go_enter Try.func117, Try.ntmps117
  go_wp2
  go_loopw [9] (fun i wr => ∃ k : Nat, k ≤ l.length ∧ i = .int .i64 k ∧ (∀ j, j < k → (fun x => decide (x = s)) (nth l j) = false) ∧ Ext w wr) (fun i _ => l.length - (intOf i).toNat)
  case atStart => exact ⟨0, Nat.zero_le _, rfl, by omega, Ext.refl _⟩
  case round =>
    obtain ⟨k, hk, rfl, hj, hb⟩ := hrel
    have HJ := Lib.hid hj
    clear hj
    by_cases hlt : k < l.length
    · obtain ⟨b, o, rfl, hbs, hel⟩ := hs.get (by omega)
      have hc := (at_str ((hel k hlt).ext hb hbs)).1
      simp only [tStr, Nat.mul_one] at hc
      clear hel
      by_cases hq : nth l k = s
      · have HQ := Lib.hid (findIx_at (fun x => decide (x = s)) hlt HJ.out (by simp [hq]))
        rw [hq] at hc
        clear hq
        go_wp2
        go_ret
        exact ⟨ret_int (by rw [HB.out, HQ.out]), hb⟩
      · have HQ := Lib.hid hq
        have hz := bytes_beq_false hq
        clear hq
        go_wp2
        go_roundw
        case rel => exact ⟨k + 1, by omega, by go_num, fun j hj => by by_cases e : j = k; (rw [e]; simp [HQ.out]); exact HJ.out j (by omega), hb⟩
        case measure => simp [intOf]; omega
    · obtain rfl : k = l.length := by omega
      have HQ := Lib.hid (findIx_not (fun x => decide (x = s)) (all_nth HJ.out))
      go_wp2
      go_ret
      exact ⟨ret_int (by rw [HB.out, HQ.out]), hb⟩

/-- A reachability graph that is valid. -/
def goodMv (n : Int) (m : Mv) : Bool := decide (0 ≤ m.src ∧ m.src ≤ n - 1) && decide (0 ≤ m.dst ∧ m.dst ≤ n - 1) && decide (0 ≤ m.by_ ∧ m.by_ ≤ 23)
def goodReach (r : RGraph) : Bool := decide (1 ≤ (r.marks.length : Int) ∧ (r.marks.length : Int) ≤ 300) && decide r.marks.Nodup && decide (r.moves.length ≤ 4000) && r.moves.all (goodMv r.marks.length)
theorem goodMv_def (n : Int) (m : Mv) : goodMv n m = (decide (0 ≤ m.src ∧ m.src ≤ n - 1) && decide (0 ≤ m.dst ∧ m.dst ≤ n - 1) && decide (0 ≤ m.by_ ∧ m.by_ ≤ 23)) := rfl
theorem goodReach_def (r : RGraph) : goodReach r = (decide (1 ≤ (r.marks.length : Int) ∧ (r.marks.length : Int) ≤ 300) && decide r.marks.Nodup && decide (r.moves.length ≤ 4000) && r.moves.all (goodMv r.marks.length)) := rfl
theorem all_drop {α : Type} [Inhabited α] (p : α → Bool) {l : List α} {k : Nat} (h : k < l.length) : (l.drop k).all p = (p (nth l k) && (l.drop (k + 1)).all p) := by
  rw [drop_nth h, List.all_cons]
end Go.Proofs.Ytidfmgahnmpcdaa
