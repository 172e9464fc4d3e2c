/- markText: the text of a mark. -/
import Derived.Test.YtcpjhpjlcgcigaaGreatDoorMarkA
import Derived.Laws.BytesString
set_option linter.unusedSimpArgs false
set_option linter.unusedVariables false
namespace Go.Proofs.YtcpjhpjlcgcigaaGreatDoor
open Go.ChangeShapes Go.WideShapes Go.ChangeAt Go.RowKit

def dig (j : Nat) : ByteArray := ByteArray.empty.push (UInt8.ofNat (48 + (j : Int) % 10).toNat)
def digs : Nat → Nat → ByteArray → ByteArray
  | 0, _, s => s
  | f + 1, j, s => if j = 0 then s else digs f (j / 10) (dig j ++ s)
theorem digs_zero (f : Nat) (s : ByteArray) : digs f 0 s = s := by cases f <;> simp [digs]
theorem digs_step {f j : Nat} (s : ByteArray) (h : 0 < j) (hf : j ≤ f) : ∃ f', f = f' + 1 ∧ digs f j s = digs f' (j / 10) (dig j ++ s) ∧ j / 10 ≤ f' := by
  cases f with
  | zero => omega
  | succ f => exact ⟨f, rfl, by rw [digs, if_neg (by omega)], by omega⟩
def markStr (n : Int) : ByteArray := if n ≤ 0 then ⟨#[109, 48]⟩ else ⟨#[109]⟩ ++ digs n.toNat n.toNat ⟨#[]⟩

theorem run_dig {P : Program} (w : World) (src dst : TypeId) (e : TypeId) (j : Nat) (hs : P.underlying src = some (.slice e)) (he : P.underlying e = some (.int .u8)) (hd : P.underlying dst = some .string) :
    (convert src dst (.slice (some ⟨w.heap.size, 0, none⟩) 1 1)).run P (w.alloc (.cells #[.int .u8 (48 + (j : Int) % 10)] e)) = .ok (.string (dig j)) (w.alloc (.cells #[.int .u8 (48 + (j : Int) % 10)] e)) := by
  rw [run_convert_bytes_string _ _ _ e _ _ _ hs he hd, run_bytesToString (ns := [48 + (j : Int) % 10])]
  · rfl
  · simp [go_sem]

set_option maxRecDepth 20000 in
set_option maxHeartbeats 400000 in
theorem markText_c (w : World) (k : Int) (hk0 : 0 ≤ k) (hk : k ≤ 2199023255552) :
    Calls Tryz.prog 51 #[.int .i64 k] w fun e w' => e = .returned (.string (markStr k)) ∧ Ext w w' := by
  obtain ⟨n, rfl⟩ := Int.eq_ofNat_of_zero_le hk0
  have hk' : n ≤ 2199023255552 := by omega
  by_cases hp : 0 < n
  · have HB : Hid (markStr (n : Int) = ⟨#[109]⟩ ++ digs n n ⟨#[]⟩) := Lib.hid (by unfold markStr; rw [if_neg (by omega)]; rfl)
    have hd0 : decide (n = 0) = false := by simp; omega
    clear hk hk0
    go_enter Tryz.func51, Tryz.ntmps51
    go_wp2
    go_loopw [0, 3] (fun v t wr => ∃ j f : Nat, ∃ s : ByteArray, v = .int .i64 j ∧ t = .string s ∧ j ≤ f ∧ s.size + j ≤ n ∧ digs n n ⟨#[]⟩ = digs f j s ∧ Ext w wr) (fun v _ _ => (intOf v).toNat)
    case atStart => exact ⟨n, n, ⟨#[]⟩, rfl, rfl, Nat.le_refl _, Nat.le_of_eq (Nat.zero_add _), rfl, Ext.refl _⟩
    case round =>
      obtain ⟨j, f, s, rfl, rfl, hj, hs, he, hx⟩ := hrel
      have HE := Lib.hid he
      clear he
      by_cases hlt : 0 < j
      · obtain ⟨f', _, hst, hf'⟩ := digs_step s hlt hj
        have HS := Lib.hid hst
        clear hst
        have hcv := run_dig (P := Tryz.prog) wr 97 9 5 j Tryz.underlying97 Tryz.underlying5 Tryz.underlying9
        have hds : (dig j).size + s.size ≤ 9223372036854775807 := by have : (dig j).size = 1 := rfl; omega
        go_wp2
        go_roundw
        case rel => exact ⟨j / 10, f', dig j ++ s, by go_num, rfl, hf', by rw [ByteArray.size_append]; have : (dig j).size = 1 := rfl; omega, by rw [HE.out, HS.out], hx.alloc _⟩
        case measure => simp [intOf]; omega
      · have hz : j < 1 := by omega
        have HZ : Hid (digs f j s = s) := Lib.hid (by have e : j = 0 := by omega
                                                      rw [e]; exact digs_zero _ _)
        have hds : (⟨#[109]⟩ : ByteArray).size + s.size ≤ 9223372036854775807 := by have : (⟨#[109]⟩ : ByteArray).size = 1 := rfl; omega
        go_wp2
        go_ret
        exact ⟨by rw [HB.out, HE.out, HZ.out]; rfl, hx⟩
  · have hz : n < 1 := by omega
    have HB : Hid (markStr (n : Int) = ⟨#[109, 48]⟩) := Lib.hid (by unfold markStr; rw [if_pos (by omega)])
    go_enter Tryz.func51, Tryz.ntmps51
    go_wp2
    go_ret
    exact ⟨by rw [HB.out]; rfl, Ext.refl _⟩
end Go.Proofs.YtcpjhpjlcgcigaaGreatDoor
