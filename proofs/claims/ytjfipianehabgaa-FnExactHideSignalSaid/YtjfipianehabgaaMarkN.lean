/- The laws' helpers mark and held over slices of slices: what lies there then. No condition. -/
import Derived.Test.YtjfipianehabgaaHelps
import Derived.Test.YtjfipianehabgaaPairs
set_option linter.unusedSimpArgs false
set_option linter.unusedVariables false
namespace Go.Proofs.Ytjfipianehabgaa
open Go.ChangeShapes Go.WideShapes Go.ChangeAt Go.RowKit

theorem VRs.split3 {w : World} {d : D} {ds2 : List D} : ∀ {ds1 : List D} {us : List Value} {bs : List Nat}, VRs w (ds1 ++ d :: ds2) us bs → ∃ us1 u us2 b1 bd b2, us = us1 ++ u :: us2 ∧ bs = b1 ++ (bd ++ b2) ∧ us1.length = ds1.length ∧ VRs w ds1 us1 b1 ∧ VR w d u bd ∧ VRs w ds2 us2 b2
  | [], _, _, .cons h h' => ⟨[], _, _, [], _, _, rfl, rfl, rfl, .nil, h, h'⟩
  | _ :: ds1, _, _, .cons h h' => by
    obtain ⟨us1, u, us2, b1, bd, b2, rfl, rfl, h1, h2, h3, h4⟩ := VRs.split3 h'
    exact ⟨_ :: us1, u, us2, _ ++ b1, bd, b2, rfl, by simp, by simp [h1], .cons h h2, h3, h4⟩
theorem VR.slice {w : World} {m : Nat} {xs : List (List D)} {u : Value} {bs : List Nat} (h : VR w (.sh m xs) u bs) : ∃ a c, u = .slice a xs.length c := by
  cases h with
  | shnil h1 h2 => exact ⟨_, _, rfl⟩
  | sh h1 h2 h3 h4 h5 h6 => exact ⟨_, _, rfl⟩
/-- One cell of a row marked. -/
theorem MFn.at_ {P : Program} {fid : FuncId} {d d' : D} {k v : Int} (hF : MFn P fid false [d] k v (some [d'])) {w : World} {ds1 ds2 : List D} {us : List Value} {bs : List Nat} (h : VRs w (ds1 ++ d :: ds2) us bs) (hnd : bs.Nodup) (hun : ∀ k ∈ bs, Un w k) :
    ∃ u, us[ds1.length]? = some u ∧ (∃ bd, VR w d u bd) ∧ Calls P fid #[u, .int .i64 k] w fun e w' => e = .returned (.int .i64 v) ∧ Turn bs w w' ∧ VRs w' (ds1 ++ d' :: ds2) us bs := by
  obtain ⟨us1, u, us2, b1, bd, b2, rfl, rfl, h1, h2, h3, h4⟩ := VRs.split3 h
  rw [List.nodup_append] at hnd
  obtain ⟨n1, n2, n3⟩ := hnd
  rw [List.nodup_append] at n2
  obtain ⟨n4, n5, n6⟩ := n2
  refine ⟨u, by rw [← h1, List.getElem?_append_right (Nat.le_refl _), Nat.sub_self]; rfl, ⟨bd, h3⟩, ?_⟩
  have h3' : VRs w [d] [u] bd := by simpa using VRs.cons h3 .nil
  refine (hF.calls w [u] bd h3' n4 fun k hk => hun k (by simp [hk])).mono ?_
  rintro e w' ⟨he, ht, hv⟩
  refine ⟨he, ht.mono fun k hk => by simp [hk], ?_⟩
  obtain ⟨u', e1, h5⟩ := vrs_one (hv _ rfl)
  cases e1
  refine VRs.append (h2.keep fun k hk => ht.block k (h2.inb k hk) fun hm => n3 k hk k (by simp [hm]) rfl) (.cons h5 (h4.keep fun k hk => ht.block k (h4.inb k hk) fun hm => n6 k hm k hk rfl))

/-- Slices of numbers of these lengths, numbered on from k. -/
def nmk : List Nat → Int → List D
  | [], _ => []
  | n :: r, k => .sh 1 (mrows 1 fInt n k) :: nmk r (k + ((n * 1 : Nat) : Int))
def one1 (l : List D) : List (List D) := l.map fun d => [d]
def two2 : List D → List (List D)
  | a :: b :: l => [a, b] :: two2 l
  | _ => []
theorem one1_flat (l : List D) : (one1 l).flatten = l := by induction l with
  | nil => rfl
  | cons a l ih => simpa [one1] using ih
theorem nmk_len : ∀ (l : List Nat) (k : Int), (nmk l k).length = l.length
  | [], _ => rfl
  | _ :: l, k => by simp [nmk, nmk_len l]
theorem nmk_append : ∀ (l r : List Nat) (k : Int), nmk (l ++ r) k = nmk l k ++ nmk r (k + (l.sum : Nat))
  | [], _, _ => by simp [nmk]
  | n :: l, r, k => by
    simp only [List.cons_append, nmk, nmk_append l r, List.sum_cons, Nat.mul_one]
    rw [show k + (n : Int) + ((l.sum : Nat) : Int) = k + ((n + l.sum : Nat) : Int) by omega]

/-! ### Slices of slices of numbers -/
def cntII (l : List (List Int)) : Nat := (l.map fun y => y.length).sum
def lensII (l : List (List Int)) : List Nat := l.map fun y => y.length
def shI (r : List Int) : D := .sh 1 (ints r)
theorem flat_dII : ∀ l : List (List Int), (l.map dII).flatten = l.map shI
  | [] => rfl
  | a :: l => by rw [List.map_cons, List.flatten_cons, flat_dII l]; rfl
/-- What lies there when the first j are marked. -/
def markX (l : List (List Int)) (k0 : Int) (j : Nat) : List D := nmk (lensII (l.take j)) k0 ++ (l.drop j).map shI
theorem markX_zero (l : List (List Int)) (k0 : Int) : markX l k0 0 = (l.map dII).flatten := by rw [flat_dII]; simp [markX, lensII, nmk]
theorem markX_end (l : List (List Int)) (k0 : Int) : markX l k0 l.length = nmk (lensII l) k0 := by simp [markX]
theorem markX_at {l : List (List Int)} {k0 : Int} {j : Nat} (h : j < l.length) : markX l k0 j = nmk (lensII (l.take j)) k0 ++ .sh 1 (ints (nth l j)) :: (l.drop (j + 1)).map shI := by
  rw [markX, drop_nth h, List.map_cons]; rfl
theorem markX_next {l : List (List Int)} {k0 : Int} {j : Nat} (h : j < l.length) : markX l k0 (j + 1) = nmk (lensII (l.take j)) k0 ++ .sh 1 (mrows 1 fInt (nth l j).length (k0 + (cntII (l.take j) : Nat))) :: (l.drop (j + 1)).map shI := by
  have e : lensII (l.take (j + 1)) = lensII (l.take j) ++ [(nth l j).length] := by simp [lensII, take_nth h]
  rw [markX, e, nmk_append]
  simp [nmk, cntII, lensII]
theorem cntII_next {l : List (List Int)} {j : Nat} (h : j < l.length) : cntII (l.take (j + 1)) = cntII (l.take j) + (nth l j).length := by
  simp [cntII, take_nth h]
theorem cntII_le (l : List (List Int)) (j : Nat) : cntII (l.take j) ≤ cntII l := by
  have e : cntII l = cntII (l.take j) + cntII (l.drop j) := by
    rw [cntII, cntII, cntII, ← List.sum_append, ← List.map_append, List.take_append_drop]
  omega

theorem nmk_nth : ∀ {ns : List Nat} {k0 : Int} {j : Nat}, j < ns.length → (nmk ns k0)[j]? = some (.sh 1 (mrows 1 fInt (nth ns j) (k0 + (((ns.take j).sum : Nat) : Int))))
  | [], _, _, h => by simp at h
  | n :: ns, k0, 0, _ => by simp [nmk, nth_cons_zero]
  | n :: ns, k0, j + 1, h => by
    simp only [nmk, List.getElem?_cons_succ, nth_cons_succ, List.take_succ_cons, List.sum_cons]
    rw [nmk_nth (by simpa using h)]
    congr 3; simp; omega
theorem nmk_row {ns : List Nat} {k0 : Int} {j : Nat} (h : j < ns.length) : RowAt (one1 (nmk ns k0)) (j : Int) [.sh 1 (mrows 1 fInt (nth ns j) (k0 + (((ns.take j).sum : Nat) : Int)))] :=
  ⟨by omega, by rw [Int.toNat_natCast, one1, List.getElem?_map, nmk_nth h]; rfl⟩
theorem sumTake_le (ns : List Nat) (j : Nat) : (ns.take j).sum ≤ ns.sum := by
  have e : ns.sum = (ns.take j).sum + (ns.drop j).sum := by rw [← List.sum_append, List.take_append_drop]
  omega
theorem sum_take_nth {ns : List Nat} {j : Nat} (h : j < ns.length) : (ns.take (j + 1)).sum = (ns.take j).sum + nth ns j := by simp [take_nth h]

end Go.Proofs.Ytjfipianehabgaa
