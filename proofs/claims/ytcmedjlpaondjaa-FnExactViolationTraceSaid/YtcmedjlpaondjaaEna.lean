/- Enabled transitions: what the reference's and the program's functions hand back. No condition. -/
import Derived.Test.YtcmedjlpaondjaaIx
import Derived.Test.YtcmedjlpaondjaaPick
import Derived.Test.YtcmedjlpaondjaaStg
set_option linter.unusedSimpArgs false
set_option linter.unusedVariables false
namespace Go.Proofs.Ytcmedjlpaondjaa
open Go.ChangeShapes Go.WideShapes Go.ChangeAt Go.RowKit

theorem risingFrom_mem {lo hi : Int} : ∀ {l : List Int} {prev : Option Int}, risingFrom lo hi prev l = true → ∀ x ∈ l, lo ≤ x ∧ x ≤ hi
  | [], _, _, x, hx => by simp at hx
  | y :: l, prev, h, x, hx => by
    rw [risingFrom_cons, Bool.and_eq_true, Bool.and_eq_true] at h
    rcases List.mem_cons.1 hx with rfl | hx
    · exact of_decide_eq_true h.1.1
    · exact risingFrom_mem h.2 x hx
/-- The places ahead of a transition lie in the marking, and their bits are bits. -/
def PreOk (m : ByteArray) (t : Tr) : Prop := ∀ p ∈ t.pre, (0 ≤ p ∧ p < m.size) ∧ (bAt m p = 48 ∨ bAt m p = 49)
theorem goodMark_pre {n : NetD} {m : ByteArray} (h : goodMark n m = true) : ∀ t ∈ n.trs, PreOk m t := by
  intro t ht p hp
  simp only [goodMark, bitsB, Bool.and_eq_true, goodNet, Bool.not_eq_true', List.any_eq_false, decide_eq_true_eq] at h
  obtain ⟨⟨⟨h1, h2⟩, h3⟩, h4, h5⟩ := h
  have h6 := h3 t ht
  simp only [badTr, Bool.or_eq_true, not_or, Bool.not_eq_true, Bool.not_eq_false', Bool.not_eq_true'] at h6
  have h7 := risingFrom_mem (l := t.pre) (by simpa [risingL] using h6.1.2) p hp
  have hr : 0 ≤ p ∧ p < m.size := ⟨h7.1, by omega⟩
  refine ⟨hr, ?_⟩
  rw [List.all_eq_true] at h4
  have hlt : p.toNat < m.size := by omega
  have hb := h4 m[p.toNat] (by
    have : m[p.toNat] = m.data[p.toNat] := rfl
    rw [this]; exact Array.getElem_mem_toList _)
  have e : bAt m p = ((m[p.toNat]).toNat : Int) := by unfold bAt; rw [getElem?_pos m p.toNat hlt]; rfl
  rw [e]
  simp only [isBit, Bool.or_eq_true, beq_iff_eq] at hb
  rcases hb with h | h <;> rw [h] <;> simp

def readyT (m : ByteArray) (t : Tr) : Bool := t.pre.all fun p => decide (bAt m p = 49)
theorem readyT_any {m : ByteArray} {t : Tr} (h : PreOk m t) : (!t.pre.any fun p => decide (bAt m p = 48)) = readyT m t := by
  rw [readyT, ← not_any_not]
  congr 1
  rw [Bool.eq_iff_iff, List.any_eq_true, List.any_eq_true]
  constructor
  · rintro ⟨p, hp, e⟩; exact ⟨p, hp, by have := of_decide_eq_true e; simp [this]⟩
  · rintro ⟨p, hp, e⟩
    refine ⟨p, hp, ?_⟩
    rcases (h p hp).2 with h | h <;> simp_all

theorem vr_cell {w : World} {ds : List D} {us : List Value} {bs : List Nat} (h : VRs w ds us bs) {q m : Nat} {ys : List (List D)} (hq : ds[q]? = some (.sh m ys)) : ys.length ≤ 9223372036854775807 := by
  obtain ⟨u, bs', _, h1, _⟩ := h.get hq
  cases h1 with
  | shnil _ _ => simp
  | sh _ h1 h2 _ _ _ => omega
theorem given_agg_row {w : World} {A : Nat → Prop} {ds : List D} (h : Given w A ds) {i j m m' q : Nat} {cs : List D} {xs ys : List (List D)} (hd : ds[i]? = some (.agg cs)) (hc : cs[j]? = some (.sh m xs)) {r : List D} (hr : r ∈ xs) (hq : r[q]? = some (.sh m' ys)) : ys.length ≤ 9223372036854775807 := by
  obtain ⟨u, h2⟩ := given_vr h hd
  obtain ⟨us, rfl, h3⟩ := h2.agg_inv
  obtain ⟨v, _, h4⟩ := h3.get hc
  obtain ⟨bs, h5, _⟩ := h4.sh_inv
  obtain ⟨us', bs', h6⟩ := vr_row h5 hr
  exact vr_cell h6 hq

def rdy (n : NetD) (m : ByteArray) (t : Nat) : Bool := readyT m (nth n.trs t)
def enabledL (n : NetD) (m : ByteArray) : List Int := pickN (rdy n m) n.trs.length

def enaL (n : NetD) (m : ByteArray) : List Int := if goodMark n m then enabledL n m else []

theorem enaL_len (n : NetD) (m : ByteArray) : (enaL n m).length ≤ 1048576 := by
  unfold enaL
  split
  · rename_i h
    have h1 : n.trs.length ≤ 24 := by simp only [goodMark, goodNet, Bool.and_eq_true, decide_eq_true_eq] at h; omega
    have := pickN_len (rdy n m) n.trs.length
    unfold enabledL; omega
  · simp
end Go.Proofs.Ytcmedjlpaondjaa
