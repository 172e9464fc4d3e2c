/- Reading lines: the reference's reader, a line at a time. No condition. Reading lines: the reference's lines of transitions. No condition. Reading lines: the reference's lines, of whatever kind. No condition. Cutting a text at a byte: the two ways of it yield the same pieces. No condition. -/
import Derived.Test.YtcpjhpjlcgcigaaGreatDoorPsA
import Derived.Test.YtcpjhpjlcgcigaaGreatDoorRen
import Derived.Test.YtcpjhpjlcgcigaaGreatDoorUnu
import Derived.Lib.SplitLaws
import Derived.Lib.IndexLaws
set_option linter.unusedSimpArgs false
set_option linter.unusedVariables false
set_option maxHeartbeats 2000000
namespace Go.Proofs.YtcpjhpjlcgcigaaGreatDoor
open Go.ChangeShapes Go.WideShapes Go.ChangeAt Go.RowKit

/-! ### What the reader holds -/
structure PS where
  places : Int
  trs : List Tr
  sigs : List Sig
  labs : List Lab
  start : ByteArray
  kind : Int
deriving Inhabited
/-- The reader's variable and its arrays. -/
abbrev bPS (p : PS) : List Blk := [.cells 36 [.lit (.int .i64 p.places), .own 1, .own 2, .own 3, .lit (.string p.start), .lit (.int .i64 p.kind)], .arr 52 2 (p.trs.map dTr) true, .arr 71 2 (p.sigs.map dSig) true, .arr 49 2 (p.labs.map dLab) true]
/-- What is left behind a line: whether it was one, and what the reader then holds. -/
def PostS (r : Option PS) (v : Value) (bs : List Blk) : Prop := (∃ p, r = some p ∧ v = .bool true ∧ bs = bPS p) ∨ (r = none ∧ v = .bool false ∧ ∃ p, bs = bPS p)
theorem PostS.yes {r : Option PS} {p : PS} (h : r = some p) : PostS r (.bool true) (bPS p) := Or.inl ⟨p, h, rfl, rfl⟩
theorem PostS.no {r : Option PS} (p : PS) (h : r = none) : PostS r (.bool false) (bPS p) := Or.inr ⟨h, rfl, p, rfl⟩

/-! ### A line of signals -/
abbrev kwL : List ByteArray := [⟨#[]⟩, ⟨#[105, 110]⟩, ⟨#[111, 117, 116]⟩, ⟨#[105, 110, 110, 101, 114]⟩]
def isKw (p : PS) (l : List ByteArray) (k : Nat) : Bool := decide (k ≠ 0 ∧ nth kwL k = nth l 0 ∧ p.kind < k ∧ 2 ≤ l.length)
def wordP (p : PS) (l : List ByteArray) (k : Nat) : PS := { p with sigs := p.sigs ++ (l.drop 1).map fun n => ⟨n, k⟩, kind := k }
def wordS (p : PS) (l : List ByteArray) : Option PS := if isKw p l 1 then some (wordP p l 1) else if isKw p l 2 then some (wordP p l 2) else if isKw p l 3 then some (wordP p l 3) else none
/-- Behind j of the names. -/
def wordJ (p : PS) (l : List ByteArray) (k j : Nat) : PS := { p with sigs := p.sigs ++ ((l.drop 1).take j).map fun n => ⟨n, k⟩ }
theorem wordJ_len (p : PS) (l : List ByteArray) (k j : Nat) : (wordJ p l k j).sigs.length ≤ p.sigs.length + l.length := by
  simp [wordJ]; omega
theorem wordJ_zero (p : PS) (l : List ByteArray) (k : Nat) : wordJ p l k 0 = p := by simp [wordJ]
theorem wordS_no {p : PS} {l : List ByteArray} (h : ∀ j, j < 4 → isKw p l j = false) : wordS p l = none := by
  simp [wordS, h 1, h 2, h 3]
theorem wordJ_succ {p : PS} {l : List ByteArray} {k j : Nat} (h : j < (l.drop 1).length) : wordJ p l k (j + 1) = { wordJ p l k j with sigs := (wordJ p l k j).sigs ++ [⟨nth (l.drop 1) j, k⟩] } := by
  simp only [wordJ, take_nth h, List.map_append, List.map_cons, List.map_nil, List.append_assoc]
theorem wordJ_all (p : PS) (l : List ByteArray) (k : Nat) : { wordJ p l k (l.drop 1).length with kind := (k : Int) } = wordP p l k := by
  simp only [wordJ, wordP, List.take_length]
theorem wordS_yes {p : PS} {l : List ByteArray} {k : Nat} (h4 : k < 4) (h : ∀ j, j < k → isKw p l j = false) (hk : isKw p l k = true) : wordS p l = some (wordP p l k) := by
  have h0 : k ≠ 0 := by rw [isKw, decide_eq_true_eq] at hk; exact hk.1
  obtain rfl | rfl | rfl : k = 1 ∨ k = 2 ∨ k = 3 := by omega
  · simp [wordS, hk]
  · simp [wordS, hk, h 1]
  · simp [wordS, hk, h 1, h 2]
theorem word_f (p : PS) (l : List ByteArray) (h1 : 1 ≤ l.length) (h2 : l.length ≤ 1048576) (hs : p.sigs.length ≤ 100000000) (hp : 0 ≤ p.kind) : FnP Tryz.prog 29 (bPS p) [.sh 1 (strs l)] (PostS (wordS p l)) := by
  refine FnP_of Tryz.func29 rfl (by kernel_rfl) rfl rfl ?_
  intro w0 A R b
  have hz := len_strs l
  have hkw : (strs kwL).length = 4 := rfl
  repeat' (first | refine goZ ?_ | refine R_callZ rfl (l3WordsP_f) rfl rfl rfl ?_ | refine R_callvZ rfl (l3WordsP_f) rfl rfl rfl rfl ?_ | refine D_callZ rfl (l3WordsP_f) rfl rfl rfl ?_ | ((first | refine R_cond rfl (fun hq => ?_) fun hq => ?_ | refine R_guardT rfl rfl rfl (fun hq => ?_) fun hq => ?_ | refine R_guardF rfl rfl rfl (fun hq => ?_) fun hq => ?_ | refine D_guardT rfl rfl rfl (fun hq => ?_) fun hq => ?_ | refine D_guardF rfl rfl rfl (fun hq => ?_) fun hq => ?_) <;> (try rw [hq]) <;> first | have hp := of_decide_eq_true hq | have hp := of_decide_eq_false hq | have hp := of_decide_eq_false (not_t hq) | have hp := of_decide_eq_true (not_f hq) | have hp := hq))
  refine W_loop (fun k : Nat => ⟨_, [(0, .pin b 0 0), (1, .sh 1 (strs l)), (9, .own 5), (10, .lit (.int .i64 4)), (11, .lit (.int .i64 k))], bPS p ++ [.cust R, .arr 9 1 (strs kwL) true]⟩) (fun k => k ≤ 4 ∧ ∀ j, j < k → isKw p l j = false) (fun k => 4 - k) 0 ⟨by omega, by omega⟩ (weak_of [] rfl rfl (by repeat' (first | exact trivial | rfl | refine And.intro ?_ ?_ | (simp [St.get, look, ints, strs, bools, List.map_drop]; done))) rfl rfl) ?_
  rintro k ⟨hk, hj⟩
  repeat' (first | refine goZ ?_ | refine R_nilCheck rfl rfl ?_ | ((first | refine R_cond rfl (fun hq => ?_) fun hq => ?_ | refine R_guardT rfl rfl rfl (fun hq => ?_) fun hq => ?_ | refine R_guardF rfl rfl rfl (fun hq => ?_) fun hq => ?_ | refine D_guardT rfl rfl rfl (fun hq => ?_) fun hq => ?_ | refine D_guardF rfl rfl rfl (fun hq => ?_) fun hq => ?_) <;> (try rw [hq]) <;> first | have hp := of_decide_eq_true hq | have hp := of_decide_eq_false hq | have hp := of_decide_eq_false (not_t hq) | have hp := of_decide_eq_true (not_f hq) | have hp := hq))
  all_goals try exact ⟨k + 1, ⟨by omega, fun j hj' => by
      by_cases e : j = k
      · subst e; rw [isKw, decide_eq_false_iff_not]; rintro ⟨a1, a2, a3, a4⟩; simp_all <;> omega
      · exact hj j (by omega)⟩, by omega, weak_of _ rfl rfl (by repeat' (first | exact trivial | rfl | refine And.intro ?_ ?_ | (simp [St.get, look, ints, strs, bools, List.map_drop]; done))) rfl rfl⟩
  · refine W_loop (fun j : Nat => ⟨_, [(0, .pin b 0 0), (5, .lit (.int .i64 k)), (39, .sh 1 (strs (l.drop 1))), (40, .lit (.int .i64 (l.drop 1).length)), (41, .lit (.int .i64 j))], bPS (wordJ p l k j) ++ [.cust R]⟩) (fun j => j ≤ (l.drop 1).length) (fun j => (l.drop 1).length - j) 0 (Nat.zero_le _) (weak_of [.arr 9 1 (strs kwL) true] rfl (by simp [wordJ]) (by repeat' (first | exact trivial | rfl | refine And.intro ?_ ?_ | (simp [St.get, look, ints, strs, bools, List.map_drop]; done))) rfl rfl) ?_
    intro j hjl
    have hz2 := len_strs (l.drop 1)
    have hz3 := wordJ_len p l k j
    have hz4 : (l.drop 1).length = l.length - 1 := List.length_drop
    dsimp only [bPS, List.cons_append, List.nil_append]
    repeat' (first | refine goZ ?_ | refine R_nilCheck rfl rfl ?_ | ((first | refine R_cond rfl (fun hq => ?_) fun hq => ?_ | refine R_guardT rfl rfl rfl (fun hq => ?_) fun hq => ?_ | refine R_guardF rfl rfl rfl (fun hq => ?_) fun hq => ?_ | refine D_guardT rfl rfl rfl (fun hq => ?_) fun hq => ?_ | refine D_guardF rfl rfl rfl (fun hq => ?_) fun hq => ?_) <;> (try rw [hq]) <;> first | have hp := of_decide_eq_true hq | have hp := of_decide_eq_false hq | have hp := of_decide_eq_false (not_t hq) | have hp := of_decide_eq_true (not_f hq) | have hp := hq))
    · refine ⟨j + 1, by omega, by omega, ?_⟩
      simp only [wordJ_succ (p := p) (l := l) (k := k) (show j < (l.drop 1).length by omega), List.map_append, List.map_cons, List.map_nil]
      exact weak_of _ rfl rfl (by repeat' (first | exact trivial | rfl | refine And.intro ?_ ?_ | (simp [St.get, look, ints, strs, bools, List.map_drop]; done))) rfl rfl
    · have e : j = (l.drop 1).length := by omega
      subst e
      refine .r (bPS (wordP p l k)) rfl rfl ?_ rfl rfl rfl (PostS.yes (wordS_yes (k := k) (by omega) hj ?_))
      · rw [← wordJ_all]; rfl
      · rw [isKw, decide_eq_true_eq]; simp_all <;> omega
  · exact .r _ rfl rfl rfl rfl rfl rfl (PostS.no p (wordS_no fun j hj' => hj j (by omega)))
end Go.Proofs.YtcpjhpjlcgcigaaGreatDoor
namespace Go.Proofs.YtcpjhpjlcgcigaaGreatDoor
open Go.ChangeShapes Go.WideShapes Go.ChangeAt Go.RowKit

/-- The label that a word names. -/
def wSig (sigs : List Sig) (x : ByteArray) : Int := findIx (fun y : Sig => decide (y.name = x)) sigs
def labO (sigs : List Sig) (x : ByteArray) : Option Lab :=
  if x = ⟨#[126]⟩ then some ⟨-1, false⟩
  else if 1 ≤ (x.size : Int) - 1 ∧ (bAt x ((x.size : Int) - 1) = 43 ∨ bAt x ((x.size : Int) - 1) = 45) ∧ 0 ≤ wSig sigs (x.extract 0 ((x.size : Int) - 1).toNat) then some ⟨wSig sigs (x.extract 0 ((x.size : Int) - 1).toNat), decide (bAt x ((x.size : Int) - 1) = 43)⟩ else none
/-- The numbers ahead of and behind the word between them. -/
structure WRow where
  behind : Bool
  pre : List Int
  post : List Int
deriving Inhabited
def rowS (l : List ByteArray) : Nat → Option WRow
  | 0 => some ⟨false, [], []⟩
  | k + 1 => match rowS l k with
    | none => none
    | some r => if nth l k = ⟨#[62]⟩ ∧ r.behind = false then some { r with behind := true }
      else if twoS (nth l k) < 0 then none
      else if r.behind then some { r with post := r.post ++ [twoS (nth l k)] } else some { r with pre := r.pre ++ [twoS (nth l k)] }
def transP (p : PS) (lb : Lab) (r : WRow) : PS := { p with trs := p.trs ++ [⟨r.pre, r.post⟩], labs := p.labs ++ [lb] }
def transS (p : PS) (l : List ByteArray) : Option PS := match labO p.sigs (nth l 0) with
  | none => none
  | some lb => match rowS (l.drop 1) (l.drop 1).length with
    | none => none
    | some r => if r.behind then some (transP p lb r) else none
theorem rowS_none {l : List ByteArray} {j : Nat} (h : rowS l j = none) : ∀ k, rowS l (j + k) = none
  | 0 => h
  | k + 1 => by rw [← Nat.add_assoc, rowS, rowS_none h k]
theorem rowS_len {l : List ByteArray} : ∀ {j : Nat} {r : WRow}, rowS l j = some r → r.pre.length ≤ j ∧ r.post.length ≤ j
  | 0, r, h => by simp only [rowS, Option.some.injEq] at h; subst h; simp
  | j + 1, r, h => by
    rw [rowS] at h
    split at h
    · cases h
    · rename_i r' h'
      have ih := rowS_len h'
      split at h
      · cases h; simp only; omega
      · split at h
        · cases h
        · split at h <;> (cases h; simp only [List.length_append, List.length_singleton]; omega)
theorem transS_lab {p : PS} {l : List ByteArray} (h : labO p.sigs (nth l 0) = none) : transS p l = none := by rw [transS, h]
theorem transS_row {p : PS} {l : List ByteArray} {j : Nat} (hj : j ≤ (l.drop 1).length) (h : rowS (l.drop 1) j = none) : transS p l = none := by
  have := rowS_none h ((l.drop 1).length - j)
  rw [show j + ((l.drop 1).length - j) = (l.drop 1).length by omega] at this
  rw [transS, this]
  split <;> rfl
theorem rowS_gt {l : List ByteArray} {j : Nat} {pre post : List Int} (h : rowS l j = some ⟨false, pre, post⟩) (hw : nth l j = ⟨#[62]⟩) : rowS l (j + 1) = some ⟨true, pre, post⟩ := by
  rw [rowS, h]; simp [hw]
theorem rowS_bad {l : List ByteArray} {j : Nat} {r : WRow} (h : rowS l j = some r) (hw : ¬ (nth l j = ⟨#[62]⟩ ∧ r.behind = false)) (hn : twoS (nth l j) < 0) : rowS l (j + 1) = none := by
  rw [rowS, h]; simp only; rw [if_neg hw, if_pos hn]
theorem rowS_pre {l : List ByteArray} {j : Nat} {pre post : List Int} (h : rowS l j = some ⟨false, pre, post⟩) (hw : nth l j ≠ ⟨#[62]⟩) (hn : ¬ twoS (nth l j) < 0) : rowS l (j + 1) = some ⟨false, pre ++ [twoS (nth l j)], post⟩ := by
  rw [rowS, h]; simp only; rw [if_neg (fun h => hw h.1), if_neg hn]; simp
theorem rowS_post {l : List ByteArray} {j : Nat} {pre post : List Int} (h : rowS l j = some ⟨true, pre, post⟩) (hn : ¬ twoS (nth l j) < 0) : rowS l (j + 1) = some ⟨true, pre, post ++ [twoS (nth l j)]⟩ := by
  rw [rowS, h]; simp only; rw [if_neg (fun h => by simp at h), if_neg hn]; simp
theorem transS_yes {p : PS} {l : List ByteArray} {lb : Lab} {pre post : List Int} (h : labO p.sigs (nth l 0) = some lb) (hr : rowS (l.drop 1) (l.drop 1).length = some ⟨true, pre, post⟩) : transS p l = some (transP p lb ⟨true, pre, post⟩) := by
  rw [transS, h]; simp only; rw [hr]; simp
theorem transS_no {p : PS} {l : List ByteArray} {pre post : List Int} (hr : rowS (l.drop 1) (l.drop 1).length = some ⟨false, pre, post⟩) : transS p l = none := by
  rw [transS, hr]; split <;> simp
theorem ints_app (l : List Int) (x : Int) : ints (l ++ [x]) = ints l ++ [[.lit (.int .i64 x)]] := by simp [ints]
theorem bPS_trans (p : PS) (lb : Lab) (r : WRow) : bPS (transP p lb r) = [.cells 36 [.lit (.int .i64 p.places), .own 1, .own 2, .own 3, .lit (.string p.start), .lit (.int .i64 p.kind)], .arr 52 2 (p.trs.map dTr ++ [[.sh 1 (ints r.pre), .sh 1 (ints r.post)]]) true, .arr 71 2 (p.sigs.map dSig) true, .arr 49 2 (p.labs.map dLab ++ [[.lit (.int .i64 lb.sig), .lit (.bool lb.up)]]) true] := by
  simp only [bPS, transP, List.map_append, List.map_cons, List.map_nil]; rfl
theorem labO_no {sigs : List Sig} {x : ByteArray} (h : x ≠ ⟨#[126]⟩) (h2 : ¬ (1 ≤ (x.size : Int) - 1 ∧ (bAt x ((x.size : Int) - 1) = 43 ∨ bAt x ((x.size : Int) - 1) = 45) ∧ 0 ≤ wSig sigs (x.extract 0 ((x.size : Int) - 1).toNat))) : labO sigs x = none := by
  rw [labO, if_neg h, if_neg h2]
theorem labO_til {sigs : List Sig} {x : ByteArray} (h : x = ⟨#[126]⟩) : labO sigs x = some ⟨-1, false⟩ := by rw [labO, if_pos h]
theorem labO_yes {sigs : List Sig} {x : ByteArray} (h : x ≠ ⟨#[126]⟩) (h1 : 1 ≤ (x.size : Int) - 1) (h2 : bAt x ((x.size : Int) - 1) = 43 ∨ bAt x ((x.size : Int) - 1) = 45) (h3 : 0 ≤ wSig sigs (x.extract 0 ((x.size : Int) - 1).toNat)) : labO sigs x = some ⟨wSig sigs (x.extract 0 ((x.size : Int) - 1).toNat), decide (bAt x ((x.size : Int) - 1) = 43)⟩ := by
  rw [labO, if_neg h, if_pos ⟨h1, h2, h3⟩]
set_option maxHeartbeats 6000000 in
theorem trans_f (p : PS) (l : List ByteArray) (h1 : 1 ≤ l.length) (h2 : l.length ≤ 1048576) (hs : p.trs.length ≤ 1048576) (hs2 : p.labs.length ≤ 1048576) (hsz : ∀ x ∈ l, x.size ≤ 1048576) : FnP Tryz.prog 28 (bPS p) [.sh 1 (strs l)] (PostS (transS p l)) := by
  refine FnP_of Tryz.func28 rfl (by kernel_rfl) rfl rfl ?_
  intro w0 A R b
  have hz := len_strs l
  have hz0 : (nth l (Int.toNat 0)).size ≤ 1048576 := hsz _ (nth_mem (show 0 < l.length by omega))
  have hL := l2Signal_f p.sigs
  dsimp only [bPS, List.cons_append, List.nil_append]
  cases hlb : labO p.sigs (nth l 0) with
  | none =>
    repeat' (first | refine goZ ?_ | refine goH ?_ | refine H_two (by exact rfl) (by exact rfl) (by exact rfl) (by exact rfl) (by exact rfl) ?_ ?_ | refine H_three (by exact rfl) (by exact rfl) (by exact rfl) (by exact rfl) (by exact rfl) (by exact rfl) (by exact rfl) ?_ ?_ ?_  | refine D_callxZ rfl (l2Signal_f p.sigs _) rfl rfl rfl rfl (by repeat' (first | exact trivial | rfl | refine And.intro ?_ ?_)) ?_ | ((first | refine R_cond rfl (fun hq => ?_) fun hq => ?_ | refine R_guardT rfl rfl rfl (fun hq => ?_) fun hq => ?_ | refine R_guardF rfl rfl rfl (fun hq => ?_) fun hq => ?_ | refine D_guardT rfl rfl rfl (fun hq => ?_) fun hq => ?_ | refine D_guardF rfl rfl rfl (fun hq => ?_) fun hq => ?_) <;> (try rw [hq]) <;> first | have hp := of_decide_eq_true hq | have hp := of_decide_eq_false hq | have hp := of_decide_eq_false (not_t hq) | have hp := of_decide_eq_true (not_f hq) | have hp := hq) | refine W_held mixed [] ?_)
    all_goals try exact .r (bPS p) rfl rfl rfl rfl rfl rfl (PostS.no p (transS_lab hlb))
    · exact absurd ((labO_yes (sigs := p.sigs) (x := nth l (Int.toNat 0)) (by assumption) (by omega) (Or.inr (by assumption)) (by simp only [wSig]; omega)).symm.trans hlb) (by simp)
    · exact absurd ((labO_yes (sigs := p.sigs) (x := nth l (Int.toNat 0)) (by assumption) (by omega) (Or.inl (by assumption)) (by simp only [wSig]; omega)).symm.trans hlb) (by simp)
    · exact absurd ((labO_til (sigs := p.sigs) (x := nth l (Int.toNat 0)) (by assumption)).symm.trans hlb) (by simp)
  | some lb =>
    refine W_seq ?_
    refine W_midS ⟨Tryz.f28.ntmps, [(0, .pin b 0 0), (1, .sh 1 (strs l))], [.cells 36 [.lit (.int .i64 p.places), .own 1, .own 2, .own 3, .lit (.string p.start), .lit (.int .i64 p.kind)], .arr 52 2 (p.trs.map dTr) true, .arr 71 2 (p.sigs.map dSig) true, .arr 49 2 (p.labs.map dLab) true, .cust R]⟩ ?_ ?_
    · repeat' (first | refine goZ ?_ | ((first | refine R_cond rfl (fun hq => ?_) fun hq => ?_ | refine R_guardT rfl rfl rfl (fun hq => ?_) fun hq => ?_ | refine R_guardF rfl rfl rfl (fun hq => ?_) fun hq => ?_ | refine D_guardT rfl rfl rfl (fun hq => ?_) fun hq => ?_ | refine D_guardF rfl rfl rfl (fun hq => ?_) fun hq => ?_) <;> (try rw [hq]) <;> first | have hp := of_decide_eq_true hq | have hp := of_decide_eq_false hq | have hp := of_decide_eq_false (not_t hq) | have hp := of_decide_eq_true (not_f hq) | have hp := hq))
      exact midQ.n (weak_of [] rfl rfl (by repeat' (first | exact trivial | rfl | refine And.intro ?_ ?_ | (simp [St.get, look, ints, strs, bools, List.map_drop]; done))) rfl rfl)
    · refine W_seq ?_
      refine W_midS ⟨Tryz.f28.ntmps, [(0, .pin b 0 0), (1, .sh 1 (strs l)), (5, .ptr 5 0)], [.cells 36 [.lit (.int .i64 p.places), .own 1, .own 2, .own 3, .lit (.string p.start), .lit (.int .i64 p.kind)], .arr 52 2 (p.trs.map dTr) true, .arr 71 2 (p.sigs.map dSig) true, .arr 49 2 (p.labs.map dLab) true, .cust R, .cells 49 [.lit (.int .i64 (-1)), .lit (.bool false)]]⟩ ?_ ?_
      · repeat' (first | refine goZ ?_ | ((first | refine R_cond rfl (fun hq => ?_) fun hq => ?_ | refine R_guardT rfl rfl rfl (fun hq => ?_) fun hq => ?_ | refine R_guardF rfl rfl rfl (fun hq => ?_) fun hq => ?_ | refine D_guardT rfl rfl rfl (fun hq => ?_) fun hq => ?_ | refine D_guardF rfl rfl rfl (fun hq => ?_) fun hq => ?_) <;> (try rw [hq]) <;> first | have hp := of_decide_eq_true hq | have hp := of_decide_eq_false hq | have hp := of_decide_eq_false (not_t hq) | have hp := of_decide_eq_true (not_f hq) | have hp := hq))
        exact midQ.n (weak_of [] rfl rfl (by repeat' (first | exact trivial | rfl | refine And.intro ?_ ?_ | (simp [St.get, look, ints, strs, bools, List.map_drop]; done))) rfl rfl)
      refine W_seq ?_
      refine W_midS ⟨Tryz.f28.ntmps, [(0, .pin b 0 0), (1, .sh 1 (strs l)), (5, .ptr 5 0)], [.cells 36 [.lit (.int .i64 p.places), .own 1, .own 2, .own 3, .lit (.string p.start), .lit (.int .i64 p.kind)], .arr 52 2 (p.trs.map dTr) true, .arr 71 2 (p.sigs.map dSig) true, .arr 49 2 (p.labs.map dLab) true, .cust R, .cells 49 [.lit (.int .i64 lb.sig), .lit (.bool lb.up)]]⟩ ?_ ?_
      · repeat' (first | refine goZ ?_ | refine goH ?_ | refine H_two (by exact rfl) (by exact rfl) (by exact rfl) (by exact rfl) (by exact rfl) ?_ ?_ | refine H_three (by exact rfl) (by exact rfl) (by exact rfl) (by exact rfl) (by exact rfl) (by exact rfl) (by exact rfl) ?_ ?_ ?_  | refine D_callxZ rfl (l2Signal_f p.sigs _) rfl rfl rfl rfl (by repeat' (first | exact trivial | rfl | refine And.intro ?_ ?_)) ?_ | ((first | refine R_cond rfl (fun hq => ?_) fun hq => ?_ | refine R_guardT rfl rfl rfl (fun hq => ?_) fun hq => ?_ | refine R_guardF rfl rfl rfl (fun hq => ?_) fun hq => ?_ | refine D_guardT rfl rfl rfl (fun hq => ?_) fun hq => ?_ | refine D_guardF rfl rfl rfl (fun hq => ?_) fun hq => ?_) <;> (try rw [hq]) <;> first | have hp := of_decide_eq_true hq | have hp := of_decide_eq_false hq | have hp := of_decide_eq_false (not_t hq) | have hp := of_decide_eq_true (not_f hq) | have hp := hq) | refine W_held mixed [] ?_)
        · exact absurd ((labO_no (sigs := p.sigs) (x := nth l (Int.toNat 0)) (by assumption) (by rintro ⟨a1, a2, a3⟩; simp only [wSig] at a3; omega)).symm.trans hlb) (by simp)
        · have e := labO_yes (sigs := p.sigs) (x := nth l (Int.toNat 0)) (by assumption) (by omega) (Or.inr (by assumption)) (by simp only [wSig]; omega); obtain rfl := Option.some.inj (e.symm.trans hlb); exact midQ.n (weak_of _ rfl rfl (by repeat' (first | exact trivial | rfl | refine And.intro ?_ ?_ | (simp [St.get, look, ints, strs, bools, List.map_drop]; done))) rfl rfl)
        · exact absurd ((labO_no (sigs := p.sigs) (x := nth l (Int.toNat 0)) (by assumption) (by rintro ⟨a1, a2, a3⟩; rcases a2 with a2 | a2 <;> contradiction)).symm.trans hlb) (by simp)
        · exact absurd ((labO_no (sigs := p.sigs) (x := nth l (Int.toNat 0)) (by assumption) (by rintro ⟨a1, a2, a3⟩; simp only [wSig] at a3; omega)).symm.trans hlb) (by simp)
        · have e := labO_yes (sigs := p.sigs) (x := nth l (Int.toNat 0)) (by assumption) (by omega) (Or.inl (by assumption)) (by simp only [wSig]; omega); obtain rfl := Option.some.inj (e.symm.trans hlb); exact midQ.n (weak_of _ rfl rfl (by repeat' (first | exact trivial | rfl | refine And.intro ?_ ?_ | (simp [St.get, look, ints, strs, bools, List.map_drop]; done))) rfl rfl)
        · exact absurd ((labO_no (sigs := p.sigs) (x := nth l (Int.toNat 0)) (by assumption) (by rintro ⟨a1, a2, a3⟩; omega)).symm.trans hlb) (by simp)
        · have e := labO_til (sigs := p.sigs) (x := nth l (Int.toNat 0)) (by assumption); obtain rfl := Option.some.inj (e.symm.trans hlb); exact midQ.n (weak_of _ rfl rfl (by repeat' (first | exact trivial | rfl | refine And.intro ?_ ?_ | (simp [St.get, look, ints, strs, bools, List.map_drop]; done))) rfl rfl)
      repeat' (first | refine goZ ?_ | ((first | refine R_cond rfl (fun hq => ?_) fun hq => ?_ | refine R_guardT rfl rfl rfl (fun hq => ?_) fun hq => ?_ | refine R_guardF rfl rfl rfl (fun hq => ?_) fun hq => ?_ | refine D_guardT rfl rfl rfl (fun hq => ?_) fun hq => ?_ | refine D_guardF rfl rfl rfl (fun hq => ?_) fun hq => ?_) <;> (try rw [hq]) <;> first | have hp := of_decide_eq_true hq | have hp := of_decide_eq_false hq | have hp := of_decide_eq_false (not_t hq) | have hp := of_decide_eq_true (not_f hq) | have hp := hq))
      refine W_openC 6 0 3 1 rfl rfl rfl ?_
      refine W_openC 6 1 3 1 rfl rfl rfl ?_
      refine W_loop (fun x : Nat × WRow => ⟨_, [(0, .pin b 0 0), (5, .ptr 5 0), (7, .ptr 6 0), (8, .lit (.bool x.2.behind)), (73, .sh 1 (strs (l.drop 1))), (74, .lit (.int .i64 (l.drop 1).length)), (75, .lit (.int .i64 x.1))], [.cells 36 [.lit (.int .i64 p.places), .own 1, .own 2, .own 3, .lit (.string p.start), .lit (.int .i64 p.kind)], .arr 52 2 (p.trs.map dTr) true, .arr 71 2 (p.sigs.map dSig) true, .arr 49 2 (p.labs.map dLab) true, .cust R, .cells 49 [.lit (.int .i64 lb.sig), .lit (.bool lb.up)], .cells 52 [.own 7, .own 8], .arr 3 1 (ints x.2.pre) true, .arr 3 1 (ints x.2.post) true]⟩) (fun x => x.1 ≤ (l.drop 1).length ∧ rowS (l.drop 1) x.1 = some x.2) (fun x => (l.drop 1).length - x.1) (0, ⟨false, [], []⟩) ⟨Nat.zero_le _, rfl⟩ (weak_of [] rfl rfl (by repeat' (first | exact trivial | rfl | refine And.intro ?_ ?_ | (simp [St.get, look, ints, strs, bools, List.map_drop]; done))) rfl rfl) ?_
      rintro ⟨j, ⟨bh, pre, post⟩⟩ ⟨hj, hr⟩
      dsimp only at hj hr ⊢
      have hlr := rowS_len hr
      dsimp only at hlr
      have hz2 := len_strs (l.drop 1)
      have hz4 : (l.drop 1).length = l.length - 1 := List.length_drop
      have hz5 := len_ints pre
      have hz6 := len_ints post
      have hzj : j < (l.drop 1).length → (nth (l.drop 1) j).size ≤ 1048576 := fun h => hsz _ (List.mem_of_mem_drop (nth_mem h))
      repeat' (first | refine goZ ?_ | refine R_callZ rfl (l3Two_f _ (hzj (by omega))) rfl rfl rfl ?_ | refine R_callvZ rfl (l3Two_f _ (hzj (by omega))) rfl rfl rfl rfl ?_ | refine D_callZ rfl (l3Two_f _ (hzj (by omega))) rfl rfl rfl ?_ | ((first | refine R_cond rfl (fun hq => ?_) fun hq => ?_ | refine R_guardT rfl rfl rfl (fun hq => ?_) fun hq => ?_ | refine R_guardF rfl rfl rfl (fun hq => ?_) fun hq => ?_ | refine D_guardT rfl rfl rfl (fun hq => ?_) fun hq => ?_ | refine D_guardF rfl rfl rfl (fun hq => ?_) fun hq => ?_) <;> (try rw [hq]) <;> first | have hp := of_decide_eq_true hq | have hp := of_decide_eq_false hq | have hp := of_decide_eq_false (not_t hq) | have hp := of_decide_eq_true (not_f hq) | have hp := hq))
      rotate_right 1
      · refine W_midS ⟨Tryz.f28.ntmps, [(0, .pin b 0 0), (5, .ptr 5 0), (8, .lit (.bool bh))], [.cells 36 [.lit (.int .i64 p.places), .own 1, .own 2, .own 3, .lit (.string p.start), .lit (.int .i64 p.kind)], .arr 52 2 (p.trs.map dTr ++ [[.sh 1 (ints pre), .sh 1 (ints post)]]) true, .arr 71 2 (p.sigs.map dSig) true, .arr 49 2 (p.labs.map dLab) true, .cust R, .cells 49 [.lit (.int .i64 lb.sig), .lit (.bool lb.up)]]⟩ ?_ ?_
        · repeat' (first | refine goZ ?_ | refine goH ?_ | refine H_two (by exact rfl) (by exact rfl) (by exact rfl) (by exact rfl) (by exact rfl) ?_ ?_ | refine H_three (by exact rfl) (by exact rfl) (by exact rfl) (by exact rfl) (by exact rfl) (by exact rfl) (by exact rfl) ?_ ?_ ?_  | ((first | refine R_cond rfl (fun hq => ?_) fun hq => ?_ | refine R_guardT rfl rfl rfl (fun hq => ?_) fun hq => ?_ | refine R_guardF rfl rfl rfl (fun hq => ?_) fun hq => ?_ | refine D_guardT rfl rfl rfl (fun hq => ?_) fun hq => ?_ | refine D_guardF rfl rfl rfl (fun hq => ?_) fun hq => ?_) <;> (try rw [hq]) <;> first | have hp := of_decide_eq_true hq | have hp := of_decide_eq_false hq | have hp := of_decide_eq_false (not_t hq) | have hp := of_decide_eq_true (not_f hq) | have hp := hq) | refine W_held mixed [] ?_)
          all_goals exact midQ.n (weak_of _ rfl rfl (by repeat' (first | exact trivial | rfl | refine And.intro ?_ ?_ | (simp [St.get, look, ints, strs, bools, List.map_drop]; done))) rfl rfl)
        · repeat' (first | refine goZ ?_ | ((first | refine R_cond rfl (fun hq => ?_) fun hq => ?_ | refine R_guardT rfl rfl rfl (fun hq => ?_) fun hq => ?_ | refine R_guardF rfl rfl rfl (fun hq => ?_) fun hq => ?_ | refine D_guardT rfl rfl rfl (fun hq => ?_) fun hq => ?_ | refine D_guardF rfl rfl rfl (fun hq => ?_) fun hq => ?_) <;> (try rw [hq]) <;> first | have hp := of_decide_eq_true hq | have hp := of_decide_eq_false hq | have hp := of_decide_eq_false (not_t hq) | have hp := of_decide_eq_true (not_f hq) | have hp := hq))
          refine W_midS ⟨Tryz.f28.ntmps, [(0, .pin b 0 0), (8, .lit (.bool bh))], [.cells 36 [.lit (.int .i64 p.places), .own 1, .own 2, .own 3, .lit (.string p.start), .lit (.int .i64 p.kind)], .arr 52 2 (p.trs.map dTr ++ [[.sh 1 (ints pre), .sh 1 (ints post)]]) true, .arr 71 2 (p.sigs.map dSig) true, .arr 49 2 (p.labs.map dLab ++ [[.lit (.int .i64 lb.sig), .lit (.bool lb.up)]]) true, .cust R]⟩ ?_ ?_
          · repeat' (first | refine goZ ?_ | refine goH ?_ | refine H_two (by exact rfl) (by exact rfl) (by exact rfl) (by exact rfl) (by exact rfl) ?_ ?_ | refine H_three (by exact rfl) (by exact rfl) (by exact rfl) (by exact rfl) (by exact rfl) (by exact rfl) (by exact rfl) ?_ ?_ ?_  | ((first | refine R_cond rfl (fun hq => ?_) fun hq => ?_ | refine R_guardT rfl rfl rfl (fun hq => ?_) fun hq => ?_ | refine R_guardF rfl rfl rfl (fun hq => ?_) fun hq => ?_ | refine D_guardT rfl rfl rfl (fun hq => ?_) fun hq => ?_ | refine D_guardF rfl rfl rfl (fun hq => ?_) fun hq => ?_) <;> (try rw [hq]) <;> first | have hp := of_decide_eq_true hq | have hp := of_decide_eq_false hq | have hp := of_decide_eq_false (not_t hq) | have hp := of_decide_eq_true (not_f hq) | have hp := hq) | refine W_held mixed [] ?_)
            all_goals exact midQ.n (weak_of _ rfl rfl (by repeat' (first | exact trivial | rfl | refine And.intro ?_ ?_ | (simp [St.get, look, ints, strs, bools, List.map_drop]; done))) rfl rfl)
          · repeat' (first | refine goZ ?_ | ((first | refine R_cond rfl (fun hq => ?_) fun hq => ?_ | refine R_guardT rfl rfl rfl (fun hq => ?_) fun hq => ?_ | refine R_guardF rfl rfl rfl (fun hq => ?_) fun hq => ?_ | refine D_guardT rfl rfl rfl (fun hq => ?_) fun hq => ?_ | refine D_guardF rfl rfl rfl (fun hq => ?_) fun hq => ?_) <;> (try rw [hq]) <;> first | have hp := of_decide_eq_true hq | have hp := of_decide_eq_false hq | have hp := of_decide_eq_false (not_t hq) | have hp := of_decide_eq_true (not_f hq) | have hp := hq))
            have ej : j = (l.drop 1).length := by omega
            rw [ej] at hr
            cases bh
            · exact .r (bPS (transP p lb ⟨false, pre, post⟩)) rfl rfl (by rw [bPS_trans]; rfl) rfl rfl rfl (PostS.no _ (transS_no hr))
            · exact .r (bPS (transP p lb ⟨true, pre, post⟩)) rfl rfl (by rw [bPS_trans]; rfl) rfl rfl rfl (PostS.yes (transS_yes hlb hr))
      all_goals cases bh
      all_goals first
        | (exfalso; simp_all; done)
        | exact ⟨(j + 1, ⟨true, pre, post⟩), ⟨by omega, rowS_gt hr (by assumption)⟩, by dsimp only; omega, weak_of _ rfl rfl (by repeat' (first | exact trivial | rfl | refine And.intro ?_ ?_ | (simp [St.get, look, ints, strs, bools, List.map_drop]; done))) rfl rfl⟩
        | exact .r (bPS p) rfl rfl rfl rfl rfl rfl (PostS.no p (transS_row (j := j + 1) (by omega) (rowS_bad hr (by simp_all) (by assumption))))
        | (refine ⟨(j + 1, ⟨false, pre ++ [twoS (nth (l.drop 1) j)], post⟩), ⟨by omega, rowS_pre hr (by assumption) (by assumption)⟩, by dsimp only; omega, ?_⟩; simp only [ints_app]; exact weak_of _ rfl rfl (by repeat' (first | exact trivial | rfl | refine And.intro ?_ ?_ | (simp [St.get, look, ints, strs, bools, List.map_drop]; done))) rfl rfl)
        | (refine ⟨(j + 1, ⟨true, pre, post ++ [twoS (nth (l.drop 1) j)]⟩), ⟨by omega, rowS_post hr (by assumption)⟩, by dsimp only; omega, ?_⟩; simp only [ints_app]; exact weak_of _ rfl rfl (by repeat' (first | exact trivial | rfl | refine And.intro ?_ ?_ | (simp [St.get, look, ints, strs, bools, List.map_drop]; done))) rfl rfl)
end Go.Proofs.YtcpjhpjlcgcigaaGreatDoor
namespace Go.Proofs.YtcpjhpjlcgcigaaGreatDoor
open Go.ChangeShapes Go.WideShapes Go.ChangeAt Go.RowKit

abbrev startW : ByteArray := ⟨#[115, 116, 97, 114, 116]⟩
def startP (p : PS) (l : List ByteArray) : PS := { p with places := (nth l 1).size, start := nth l 1, kind := 4 }
def lineS (p : PS) (l : List ByteArray) : Option PS := if p.kind = 4 then transS p l else if nth l 0 = startW then (if l.length = 2 then some (startP p l) else none) else wordS p l
theorem PostS.congr {r r' : Option PS} {v : Value} {bs : List Blk} (e : r = r') (h : PostS r v bs) : PostS r' v bs := e ▸ h
theorem line_f (p : PS) (l : List ByteArray) (h1 : 1 ≤ l.length) (h2 : l.length ≤ 1048576) (hs0 : p.sigs.length ≤ 100000000) (hk : 0 ≤ p.kind) (hs : p.trs.length ≤ 1048576) (hs2 : p.labs.length ≤ 1048576) (hsz : ∀ x ∈ l, x.size ≤ 1048576) : FnP Tryz.prog 10 (bPS p) [.sh 1 (strs l)] (PostS (lineS p l)) := by
  refine FnP_of Tryz.func10 rfl (by kernel_rfl) rfl rfl ?_
  intro w0 A R b
  have hz := len_strs l
  have hT := trans_f p l h1 h2 hs hs2 hsz
  have hW := word_f p l h1 h2 hs0 hk
  have hz1 : 1 < l.length → (nth l (Int.toNat 1)).size ≤ 1048576 := fun h => hsz _ (nth_mem h)
  dsimp only [bPS, List.cons_append, List.nil_append]
  repeat' (first | refine goZ ?_ | refine R_callP (hp2 := [.cust R]) rfl hT rfl rfl rfl rfl rfl rfl rfl rfl ?_ | refine R_callP (hp2 := [.cust R]) rfl hW rfl rfl rfl rfl rfl rfl rfl rfl ?_ | ((first | refine R_cond rfl (fun hq => ?_) fun hq => ?_ | refine R_guardT rfl rfl rfl (fun hq => ?_) fun hq => ?_ | refine R_guardF rfl rfl rfl (fun hq => ?_) fun hq => ?_ | refine D_guardT rfl rfl rfl (fun hq => ?_) fun hq => ?_ | refine D_guardF rfl rfl rfl (fun hq => ?_) fun hq => ?_) <;> (try rw [hq]) <;> first | have hp := of_decide_eq_true hq | have hp := of_decide_eq_false hq | have hp := of_decide_eq_false (not_t hq) | have hp := of_decide_eq_true (not_f hq) | have hp := hq))
  · intro v bs' _ hp' _
    have e : lineS p l = transS p l := by rw [lineS, if_pos (by assumption)]
    rw [← e] at hp'
    rcases hp' with ⟨p', e2, rfl, rfl⟩ | ⟨e2, rfl, p', rfl⟩
    · repeat' (first | refine goZ ?_ | ((first | refine R_cond rfl (fun hq => ?_) fun hq => ?_ | refine R_guardT rfl rfl rfl (fun hq => ?_) fun hq => ?_ | refine R_guardF rfl rfl rfl (fun hq => ?_) fun hq => ?_ | refine D_guardT rfl rfl rfl (fun hq => ?_) fun hq => ?_ | refine D_guardF rfl rfl rfl (fun hq => ?_) fun hq => ?_) <;> (try rw [hq]) <;> first | have hp := of_decide_eq_true hq | have hp := of_decide_eq_false hq | have hp := of_decide_eq_false (not_t hq) | have hp := of_decide_eq_true (not_f hq) | have hp := hq))
      exact .r (bPS p') rfl rfl rfl rfl rfl rfl (PostS.yes e2)
    · repeat' (first | refine goZ ?_ | ((first | refine R_cond rfl (fun hq => ?_) fun hq => ?_ | refine R_guardT rfl rfl rfl (fun hq => ?_) fun hq => ?_ | refine R_guardF rfl rfl rfl (fun hq => ?_) fun hq => ?_ | refine D_guardT rfl rfl rfl (fun hq => ?_) fun hq => ?_ | refine D_guardF rfl rfl rfl (fun hq => ?_) fun hq => ?_) <;> (try rw [hq]) <;> first | have hp := of_decide_eq_true hq | have hp := of_decide_eq_false hq | have hp := of_decide_eq_false (not_t hq) | have hp := of_decide_eq_true (not_f hq) | have hp := hq))
      exact .r (bPS p') rfl rfl rfl rfl rfl rfl (PostS.no p' e2)
  · exact .r (bPS p) rfl rfl rfl rfl rfl rfl (PostS.no p (by rw [lineS, if_neg (by assumption), if_pos (by assumption), if_neg (by omega)]))
  · exact .r (bPS (startP p l)) rfl rfl rfl rfl rfl rfl (PostS.yes (by rw [lineS, if_neg (by assumption), if_pos (by assumption), if_pos (by omega)]))
  · intro v bs' _ hp' _
    have e : lineS p l = wordS p l := by rw [lineS, if_neg (by assumption), if_neg (by assumption)]
    rw [← e] at hp'
    rcases hp' with ⟨p', e2, rfl, rfl⟩ | ⟨e2, rfl, p', rfl⟩
    · repeat' (first | refine goZ ?_ | ((first | refine R_cond rfl (fun hq => ?_) fun hq => ?_ | refine R_guardT rfl rfl rfl (fun hq => ?_) fun hq => ?_ | refine R_guardF rfl rfl rfl (fun hq => ?_) fun hq => ?_ | refine D_guardT rfl rfl rfl (fun hq => ?_) fun hq => ?_ | refine D_guardF rfl rfl rfl (fun hq => ?_) fun hq => ?_) <;> (try rw [hq]) <;> first | have hp := of_decide_eq_true hq | have hp := of_decide_eq_false hq | have hp := of_decide_eq_false (not_t hq) | have hp := of_decide_eq_true (not_f hq) | have hp := hq))
      exact .r (bPS p') rfl rfl rfl rfl rfl rfl (PostS.yes e2)
    · repeat' (first | refine goZ ?_ | ((first | refine R_cond rfl (fun hq => ?_) fun hq => ?_ | refine R_guardT rfl rfl rfl (fun hq => ?_) fun hq => ?_ | refine R_guardF rfl rfl rfl (fun hq => ?_) fun hq => ?_ | refine D_guardT rfl rfl rfl (fun hq => ?_) fun hq => ?_ | refine D_guardF rfl rfl rfl (fun hq => ?_) fun hq => ?_) <;> (try rw [hq]) <;> first | have hp := of_decide_eq_true hq | have hp := of_decide_eq_false hq | have hp := of_decide_eq_false (not_t hq) | have hp := of_decide_eq_true (not_f hq) | have hp := hq))
      exact .r (bPS p') rfl rfl rfl rfl rfl rfl (PostS.no p' e2)
end Go.Proofs.YtcpjhpjlcgcigaaGreatDoor
namespace Go.Proofs.YtcpjhpjlcgcigaaGreatDoor
open Go.ChangeShapes Go.WideShapes Go.ChangeAt Go.RowKit

def pieces (c : UInt8) : List UInt8 → List (List UInt8)
  | [] => [[]]
  | b :: l => if b = c then [] :: pieces c l else match pieces c l with
    | [] => [[b]]
    | p :: r => (b :: p) :: r
theorem pieces_ne (c : UInt8) : ∀ l, pieces c l ≠ []
  | [] => by simp [pieces]
  | b :: l => by
    unfold pieces
    split
    · simp
    · split <;> simp
theorem pieces_no {c : UInt8} : ∀ {l : List UInt8}, c ∉ l → pieces c l = [l]
  | [], _ => rfl
  | b :: l, h => by
    have h1 : b ≠ c := fun e => h (by simp [e])
    have h2 := pieces_no (c := c) (l := l) fun hm => h (List.mem_cons_of_mem _ hm)
    rw [pieces, if_neg h1, h2]
theorem pieces_at {c : UInt8} : ∀ {a : List UInt8}, c ∉ a → ∀ (r : List UInt8), pieces c (a ++ c :: r) = a :: pieces c r
  | [], _, r => by rw [List.nil_append, pieces, if_pos rfl]
  | b :: a, h, r => by
    have h1 : b ≠ c := fun e => h (by simp [e])
    have h2 := pieces_at (c := c) (a := a) (fun hm => h (List.mem_cons_of_mem _ hm)) r
    rw [List.cons_append, pieces, if_neg h1, h2]
theorem pieces_two {c : UInt8} : ∀ {l a p : List UInt8} {t : List (List UInt8)}, pieces c l = a :: p :: t → ∃ r, l = a ++ c :: r ∧ pieces c r = p :: t
  | [], a, p, t, h => by simp [pieces] at h
  | b :: l, a, p, t, h => by
    unfold pieces at h
    split at h
    · rename_i e
      subst e
      simp only [List.cons.injEq] at h
      exact ⟨l, by rw [← h.1]; rfl, h.2⟩
    · split at h
      · simp at h
      · rename_i q r e
        simp only [List.cons.injEq] at h
        obtain ⟨rfl, rfl⟩ := h
        obtain ⟨r', e1, e2⟩ := pieces_two e
        exact ⟨r', by rw [e1]; rfl, e2⟩
theorem pieces_one {c : UInt8} {l : List UInt8} : (pieces c l).length = 1 ↔ c ∉ l := by
  constructor
  · intro h hm
    obtain ⟨a, r, e, hn⟩ : ∃ a r, l = a ++ c :: r ∧ c ∉ a := by
      clear h
      induction l with
      | nil => simp at hm
      | cons b l ih =>
        by_cases e : b = c
        · exact ⟨[], l, by rw [e]; rfl, by simp⟩
        · obtain ⟨a, r, e1, e2⟩ := ih (by
            rcases List.mem_cons.1 hm with h | h
            · exact absurd h.symm e
            · exact h)
          exact ⟨b :: a, r, by rw [e1]; rfl, by
            intro h
            rcases List.mem_cons.1 h with h | h
            · exact e h.symm
            · exact e2 h⟩
    rw [e, pieces_at hn] at h
    have := List.length_pos_iff.2 (pieces_ne c r)
    simp only [List.length_cons] at h
    omega
  · intro h; rw [pieces_no h]; rfl
theorem pieces_free {c : UInt8} : ∀ {l p : List UInt8}, p ∈ pieces c l → c ∉ p
  | [], p, h => by simp [pieces] at h; subst h; simp
  | b :: l, p, h => by
    unfold pieces at h
    split at h
    · rcases List.mem_cons.1 h with rfl | h
      · simp
      · exact pieces_free h
    · rename_i hb
      split at h
      · rename_i e; exact absurd e (pieces_ne c l)
      · rename_i q r e
        rcases List.mem_cons.1 h with rfl | h
        · intro hm
          rcases List.mem_cons.1 hm with h2 | h2
          · exact hb h2.symm
          · exact pieces_free (l := l) (p := q) (by rw [e]; simp) h2
        · exact pieces_free (l := l) (by rw [e]; exact List.mem_cons_of_mem _ h)
/-- The library's pieces. -/
theorem splitK_pieces (c : UInt8) : ∀ l, Go.Lib.splitK [c] 0 (Go.Lib.count l [c]) l = pieces c l
  | [] => by
    rw [Go.Lib.count_miss (by simp [Go.Lib.index])]; rfl
  | b :: l => by
    have ih := splitK_pieces c l
    by_cases h : b = c
    · subst h
      rw [Go.Lib.count_cons_eq, Nat.add_comm, Go.Lib.splitK]
      have hix : Go.Lib.index (b :: l) [b] = 0 := by rw [Go.Lib.index]; simp [List.isPrefixOf]
      rw [hix, pieces, if_pos rfl]
      simpa using ih
    · rw [Go.Lib.count_cons_ne b c l h, pieces, if_neg h, ← ih]
      have hp : ([c] : List UInt8).isPrefixOf (b :: l) = false := by simp [List.isPrefixOf, Ne.symm h]
      have hix : Go.Lib.index (b :: l) [c] = if Go.Lib.index l [c] == -1 then -1 else Go.Lib.index l [c] + 1 := by rw [Go.Lib.index, hp]; simp
      cases hk : Go.Lib.count l [c] with
      | zero => rfl
      | succ k =>
        have hge := Go.Lib.index_ge l [c]
        have hm : Go.Lib.index l [c] ≠ -1 := fun e => by rw [Go.Lib.count_miss e] at hk; omega
        obtain ⟨j, hj⟩ : ∃ j : Nat, Go.Lib.index l [c] = j := ⟨(Go.Lib.index l [c]).toNat, by omega⟩
        have e1 : ¬ ((Go.Lib.index l [c] == -1) = true) := fun e => hm (beq_iff_eq.1 e)
        rw [if_neg e1] at hix
        have e2 : ¬ ((Go.Lib.index (b :: l) [c] == -1) = true) := fun e => by have := beq_iff_eq.1 e; omega
        rw [Go.Lib.splitK, if_neg e2, Go.Lib.splitK, if_neg e1, hix, hj]
        have e3 : ((j : Int) + 1).toNat = j + 1 := by omega
        rw [e3]
        simp
def ofL (l : List UInt8) : ByteArray := ⟨l.toArray⟩
theorem ofL_data (s : ByteArray) : ofL s.data.toList = s := by simp [ofL]
theorem data_ofL (l : List UInt8) : (ofL l).data.toList = l := by simp [ofL]
theorem ofL_inj {a b : List UInt8} : ofL a = ofL b ↔ a = b := ⟨fun h => by rw [← data_ofL a, ← data_ofL b, h], fun h => by rw [h]⟩
theorem ofL_size (l : List UInt8) : (ofL l).size = l.length := by simp [ofL, ByteArray.size]
theorem extr_data (s : ByteArray) (a b : Nat) : (s.extract a b).data.toList = (s.data.toList.take b).drop a := by
  rw [Go.Lib.extract_data, List.drop_take]
theorem splitB_pieces (s : ByteArray) (c : UInt8) : Go.Lib.splitB ⟨#[c]⟩ 0 (Go.Lib.countB s ⟨#[c]⟩) s = (pieces c s.data.toList).map ofL := by
  have h := Go.Lib.splitB_data ⟨#[c]⟩ 0 (Go.Lib.countB s ⟨#[c]⟩) s
  rw [show (⟨#[c]⟩ : ByteArray).data.toList = [c] from rfl] at h
  rw [show Go.Lib.countB s ⟨#[c]⟩ = Go.Lib.count s.data.toList [c] from rfl] at h ⊢
  rw [splitK_pieces] at h
  rw [← h, List.map_map]
  rw [show (ofL ∘ fun x : ByteArray => x.data.toList) = id from funext fun x => ofL_data x, List.map_id]
theorem bAt_data {s : ByteArray} {k : Nat} (hk : k < s.size) {c : UInt8} : bAt s k = (c.toNat : Int) ↔ s.data.toList[k]? = some c := by
  have hk' : k < s.data.toList.length := by rw [← Go.Lib.size_eq]; exact hk
  have e : bAt s k = ((s.data.toList[k]).toNat : Int) := by
    unfold bAt
    have : s[(k : Int).toNat]? = some (s.data.toList[k]) := by
      rw [Int.toNat_natCast, getElem?_pos s k hk]; rfl
    rw [this]; rfl
  rw [e, List.getElem?_eq_getElem hk', Option.some.injEq]
  constructor
  · intro h; exact UInt8.toNat_inj.1 (by omega)
  · intro h; rw [h]
/-- The reference's pieces. -/
theorem cutS_pieces (s : ByteArray) (c : UInt8) : ∀ k, k ≤ s.size → pieces c s.data.toList = (cutS s (c.toNat : Int) k).1.map (·.data.toList) ++ pieces c (s.data.toList.drop (cutS s (c.toNat : Int) k).2) ∧ c ∉ (s.data.toList.take k).drop (cutS s (c.toNat : Int) k).2
  | 0, _ => by simp [cutS]
  | k + 1, hk => by
    obtain ⟨h1, h2⟩ := cutS_pieces s c k (by omega)
    have hle := cutS_le s (c.toNat : Int) k
    have hlen : s.data.toList.length = s.size := (Go.Lib.size_eq s).symm
    by_cases hb : bAt s k = (c.toNat : Int)
    · rw [cutS_yes hb]
      have hc := (bAt_data (show k < s.size by omega)).1 hb
      obtain ⟨hlt, hc⟩ := List.getElem?_eq_some_iff.1 hc
      refine ⟨?_, by simp⟩
      have e : s.data.toList.drop (cutS s (c.toNat : Int) k).2 = (s.data.toList.take k).drop (cutS s (c.toNat : Int) k).2 ++ c :: s.data.toList.drop (k + 1) := by
        have e1 : s.data.toList = s.data.toList.take k ++ c :: s.data.toList.drop (k + 1) := by
          rw [← hc, List.getElem_cons_drop, List.take_append_drop]
        have e2 : (s.data.toList.take k ++ c :: s.data.toList.drop (k + 1)).drop (cutS s (c.toNat : Int) k).2 = (s.data.toList.take k).drop (cutS s (c.toNat : Int) k).2 ++ c :: s.data.toList.drop (k + 1) := by
          rw [List.drop_append_of_le_length]
          rw [List.length_take]; omega
        rw [← e2, ← e1]
      rw [h1, e, pieces_at h2]
      simp only [List.map_append, List.map_cons, List.map_nil, extr_data, List.append_assoc, List.singleton_append]
    · rw [cutS_no hb]
      refine ⟨h1, ?_⟩
      have hlt : k < s.data.toList.length := by omega
      rw [List.take_add_one, List.getElem?_eq_getElem hlt, Option.toList_some, List.drop_append_of_le_length (by rw [List.length_take]; omega)]
      intro hm
      rcases List.mem_append.1 hm with hm | hm
      · exact h2 hm
      · refine hb ((bAt_data (show k < s.size by omega)).2 ?_)
        rw [List.getElem?_eq_getElem hlt]
        exact congrArg some (List.mem_singleton.1 hm).symm
theorem splitS_pieces (s : ByteArray) (c : UInt8) {b : Int} (hb : b = (c.toNat : Int)) : splitS s b = (pieces c s.data.toList).map ofL := by
  subst hb
  have hlen : s.data.toList.length = s.size := (Go.Lib.size_eq s).symm
  obtain ⟨h1, h2⟩ := cutS_pieces s c s.size (Nat.le_refl _)
  rw [List.take_of_length_le (by omega)] at h2
  rw [pieces_no h2] at h1
  rw [h1, splitS, List.map_append, List.map_map]
  rw [show (ofL ∘ fun x : ByteArray => x.data.toList) = id from funext fun x => ofL_data x, List.map_id]
  congr 1
  simp only [List.map_cons, List.map_nil, List.cons.injEq, and_true]
  rw [← ofL_data (s.extract _ _), extr_data, List.take_of_length_le (by omega)]

/-! ### A word ahead of a text -/
theorem prefix_iff {c : UInt8} {w l : List UInt8} (hw : c ∉ w) : (w ++ [c]).isPrefixOf l = true ↔ ∃ r, l = w ++ c :: r := by
  rw [List.isPrefixOf_iff_prefix]
  constructor
  · rintro ⟨r, rfl⟩; exact ⟨r, by simp⟩
  · rintro ⟨r, rfl⟩; exact ⟨r, by simp⟩
theorem prefix_pieces {c : UInt8} {w l : List UInt8} (hw : c ∉ w) : (w ++ [c]).isPrefixOf l = true ↔ nth (pieces c l) 0 = w ∧ 2 ≤ (pieces c l).length := by
  rw [prefix_iff hw]
  constructor
  · rintro ⟨r, rfl⟩
    rw [pieces_at hw]
    have := List.length_pos_iff.2 (pieces_ne c r)
    exact ⟨rfl, by simp only [List.length_cons]; omega⟩
  · rintro ⟨h1, h2⟩
    match e : pieces c l with
    | [] => rw [e] at h2; simp at h2
    | [a] => rw [e] at h2; simp at h2
    | a :: p :: t =>
      obtain ⟨r, e1, _⟩ := pieces_two e
      rw [e] at h1
      have : a = w := h1
      exact ⟨r, by rw [e1, this]⟩
theorem prefix_rest {c : UInt8} {w l : List UInt8} (hw : c ∉ w) (h : (w ++ [c]).isPrefixOf l = true) : pieces c (l.drop (w.length + 1)) = (pieces c l).drop 1 := by
  obtain ⟨r, rfl⟩ := (prefix_iff hw).1 h
  rw [pieces_at hw]
  have : (w ++ c :: r).drop (w.length + 1) = r := by
    rw [show w ++ c :: r = (w ++ [c]) ++ r by simp]
    exact List.drop_left' (by simp)
  rw [this]; rfl
theorem byte_in {c : UInt8} {l : List UInt8} : decide (0 ≤ Go.Lib.indexByte l c) = true ↔ 2 ≤ (pieces c l).length := by
  have hp := List.length_pos_iff.2 (pieces_ne c l)
  have h1 := pieces_one (c := c) (l := l)
  have h2 := Go.Lib.indexByte_ge l c
  rw [decide_eq_true_eq]
  constructor
  · intro h
    obtain ⟨j, hj⟩ : ∃ j : Nat, Go.Lib.indexByte l c = j := ⟨(Go.Lib.indexByte l c).toNat, by omega⟩
    have := (Go.Lib.indexByte_some hj).1
    have hm : c ∈ l := List.mem_of_getElem? this
    have : ¬ (pieces c l).length = 1 := fun e => h1.1 e hm
    omega
  · intro h
    have hm : c ∈ l := by
      apply Classical.byContradiction
      intro hn
      have := h1.2 hn
      omega
    obtain ⟨k, hk⟩ := List.getElem?_of_mem hm
    apply Classical.byContradiction
    intro hn
    exact Go.Lib.indexByte_none (show Go.Lib.indexByte l c = -1 by omega) k hk
end Go.Proofs.YtcpjhpjlcgcigaaGreatDoor
