/- Reading lines, in plain words: what the reference's reading yields, and what the program's. No condition. Numbers of at most two digits: the library's reading and the reference's. No condition. -/
import Derived.Test.YtcpjhpjlcgcigaaGreatDoorPsL
import Derived.Test.YtcpjhpjlcgcigaaGreatDoorFsb
import Derived.Lib.AtoiAll
set_option linter.unusedSimpArgs false
set_option linter.unusedVariables false
namespace Go.Proofs.YtcpjhpjlcgcigaaGreatDoor
open Go.ChangeShapes Go.WideShapes Go.ChangeAt Go.RowKit

abbrev p0 : PS := ⟨0, [], [], [], ⟨#[]⟩, 0⟩
/-- Behind k of the lines. -/
def linesS (ls : List ByteArray) : Nat → Option PS
  | 0 => some p0
  | k + 1 => match linesS ls k with
    | none => none
    | some p => lineS p (splitS (nth ls k) 32)
def askedP (t : ByteArray) : Bool := decide (1 ≤ t.size ∧ t.size ≤ 4000 ∧ bAt t ((t.size : Int) - 1) = 10)
def linesOf (t : ByteArray) : List ByteArray := splitS (t.extract 0 ((t.size : Int) - 1).toNat) 10
/-- The first line that is none. -/
def failK (ls : List ByteArray) : Nat → Nat
  | 0 => 0
  | n + 1 => match linesS ls n with
    | none => failK ls n
    | some _ => n
def stgP (p : PS) : Stg := ⟨⟨p.places, p.trs⟩, p.sigs, p.labs, p.start⟩
structure PR where
  p : PS
  c : Int
  k : Int
  ok : Bool
def resS (t : ByteArray) : PR :=
  if askedP t = false then ⟨p0, 1, 0, false⟩ else
  match linesS (linesOf t) (linesOf t).length with
  | none => ⟨p0, 2, (failK (linesOf t) (linesOf t).length : Nat) + 1, false⟩
  | some p => if goodStg (stgP p) = true ∧ fmtB (stgP p) p.trs.length = t then ⟨p, 0, 0, true⟩ else ⟨p0, 3, 0, false⟩
theorem linesS_none {ls : List ByteArray} {k : Nat} (h : linesS ls k = none) : ∀ m, linesS ls (k + m) = none
  | 0 => h
  | m + 1 => by rw [← Nat.add_assoc, linesS, linesS_none h m]
theorem failK_at {ls : List ByteArray} {k : Nat} {p : PS} (h : linesS ls k = some p) (h2 : linesS ls (k + 1) = none) : ∀ m, failK ls (k + 1 + m) = k
  | 0 => by rw [Nat.add_zero, failK, h]
  | m + 1 => by rw [← Nat.add_assoc, failK, linesS_none h2 m]; exact failK_at h h2 m
theorem linesS_some {ls : List ByteArray} {k : Nat} {p : PS} (h : linesS ls k = some p) : linesS ls (k + 1) = lineS p (splitS (nth ls k) 32) := by rw [linesS, h]
theorem resS_not {t : ByteArray} (h : askedP t = false) : resS t = ⟨p0, 1, 0, false⟩ := by rw [resS, if_pos h]
theorem resS_fail {t : ByteArray} (h : askedP t = true) {k : Nat} {p : PS} (hk : k < (linesOf t).length) (h1 : linesS (linesOf t) k = some p) (h2 : lineS p (splitS (nth (linesOf t) k) 32) = none) : resS t = ⟨p0, 2, (k : Int) + 1, false⟩ := by
  have h3 : linesS (linesOf t) (k + 1) = none := (linesS_some h1).trans h2
  have h4 := linesS_none h3 ((linesOf t).length - (k + 1))
  have h5 := failK_at h1 h3 ((linesOf t).length - (k + 1))
  rw [show k + 1 + ((linesOf t).length - (k + 1)) = (linesOf t).length by omega] at h4 h5
  rw [resS, if_neg (by rw [h]; simp), h4, h5]
theorem resS_bad {t : ByteArray} (h : askedP t = true) {p : PS} (h1 : linesS (linesOf t) (linesOf t).length = some p) (h2 : ¬ (goodStg (stgP p) = true ∧ fmtB (stgP p) p.trs.length = t)) : resS t = ⟨p0, 3, 0, false⟩ := by
  rw [resS, if_neg (by rw [h]; simp), h1]; simp only; rw [if_neg h2]
theorem resS_yes {t : ByteArray} (h : askedP t = true) {p : PS} (h1 : linesS (linesOf t) (linesOf t).length = some p) (h2 : goodStg (stgP p) = true) (h3 : fmtB (stgP p) p.trs.length = t) : resS t = ⟨p, 0, 0, true⟩ := by
  rw [resS, if_neg (by rw [h]; simp), h1]; simp only; rw [if_pos ⟨h2, h3⟩]

/-! ### Bounds -/
structure PSb (k : Nat) (p : PS) : Prop where
  k0 : 0 ≤ p.kind
  k4 : p.kind ≤ 4
  sg : p.sigs.length ≤ 4001 * k
  tr : p.trs.length ≤ k
  lb : p.labs.length ≤ k
  st : p.start.size ≤ 4000
  pl : p.kind ≠ 4 → p.places = 0
  ord : p.sigs.Pairwise fun a b => a.kind ≤ b.kind
  top : ∀ x ∈ p.sigs, x.kind ≤ p.kind
theorem PSb.word {n : Nat} {p : PS} (h : PSb n p) {l : List ByteArray} (hl : l.length ≤ 4001) {k : Nat} (hk : isKw p l k = true) (h3 : k ≤ 3) : PSb (n + 1) (wordP p l k) := by
  rw [isKw, decide_eq_true_eq] at hk
  obtain ⟨a1, a2, a3, a4⟩ := hk
  refine ⟨by simp only [wordP]; omega, by simp only [wordP]; omega, ?_, by have := h.tr; simp only [wordP]; omega, by have := h.lb; simp only [wordP]; omega, h.st, fun _ => ?_, ?_, ?_⟩
  · have := h.sg
    simp only [wordP, List.length_append, List.length_map, List.length_drop]
    omega
  · exact h.pl (by omega)
  · simp only [wordP]
    refine List.pairwise_append.2 ⟨h.ord, ?_, ?_⟩
    · refine List.pairwise_iff_getElem.2 fun i j hi hj _ => ?_
      simp
    · intro a ha b hb
      simp only [List.mem_map] at hb
      obtain ⟨_, _, rfl⟩ := hb
      have := h.top a ha
      simp only; omega
  · intro x hx
    simp only [wordP, List.mem_append, List.mem_map] at hx ⊢
    rcases hx with hx | ⟨_, _, rfl⟩
    · have := h.top x hx; omega
    · exact Int.le_refl _
theorem wordS_b {n : Nat} {p p' : PS} (h : PSb n p) {l : List ByteArray} (hl : l.length ≤ 4001) (e : wordS p l = some p') : PSb (n + 1) p' := by
  unfold wordS at e
  split at e
  · cases e; exact h.word hl (by assumption) (by omega)
  · split at e
    · cases e; exact h.word hl (by assumption) (by omega)
    · split at e
      · cases e; exact h.word hl (by assumption) (by omega)
      · cases e
theorem lineS_b {n : Nat} {p p' : PS} (h : PSb n p) {l : List ByteArray} (hl : l.length ≤ 4001) (hz : ∀ x ∈ l, x.size ≤ 4000) (e : lineS p l = some p') : PSb (n + 1) p' := by
  unfold lineS at e
  split at e
  · rename_i hk
    unfold transS at e
    split at e
    · cases e
    · split at e
      · cases e
      · split at e
        · cases e
          refine ⟨h.k0, h.k4, by have := h.sg; simp only [transP]; omega, ?_, ?_, h.st, fun hn => absurd hk hn, h.ord, h.top⟩
          · have := h.tr; simp only [transP, List.length_append, List.length_singleton]; omega
          · have := h.lb; simp only [transP, List.length_append, List.length_singleton]; omega
        · cases e
  · split at e
    · split at e
      · rename_i h2
        cases e
        refine ⟨by simp [startP], by simp [startP], by have := h.sg; simp only [startP]; omega, by have := h.tr; simp only [startP]; omega, by have := h.lb; simp only [startP]; omega, hz _ (nth_mem (by omega)), fun hn => absurd rfl hn, h.ord, fun x hx => ?_⟩
        have := h.top x hx
        have := h.k4
        simp only [startP]; omega
      · cases e
    · exact wordS_b h hl e
theorem linesS_b {ls : List ByteArray} (hz : ∀ x ∈ ls, x.size ≤ 4000) : ∀ (k : Nat) (p : PS), k ≤ ls.length → linesS ls k = some p → PSb k p
  | 0, p, _, h => by
    cases h
    exact ⟨by simp, by simp, by simp, by simp, by simp, by simp [ByteArray.size], fun _ => rfl, by simp, by simp⟩
  | k + 1, p, hk, h => by
    rw [linesS] at h
    split at h
    · cases h
    · rename_i q hq
      have ih := linesS_b hz k q (by omega) hq
      have hx := hz _ (nth_mem (show k < ls.length by omega))
      have h1 := splitS_len (nth ls k) 32
      exact lineS_b ih (by omega) (fun x hx2 => Nat.le_trans (splitS_size hx2) hx) h
theorem srt_of {p : PS} {n : Nat} (h : PSb n p) : srtB p.sigs = true := by
  refine srtB_yes fun k hk h0 => ?_
  have := List.pairwise_iff_getElem.1 h.ord (k - 1) k (by omega) hk (by omega)
  rw [nth_get (show k - 1 < p.sigs.length by omega), nth_get hk]
  omega
theorem lines_size {t : ByteArray} (ht : t.size ≤ 4000) {x : ByteArray} (hx : x ∈ linesOf t) : x.size ≤ 4000 := by
  have := splitS_size hx
  rw [ByteArray.size_extract] at this
  omega
theorem lines_len {t : ByteArray} (ht : t.size ≤ 4000) : (linesOf t).length ≤ 4001 := by
  have := splitS_len (t.extract 0 ((t.size : Int) - 1).toNat) 10
  rw [ByteArray.size_extract] at this
  unfold linesOf
  omega
theorem lines_pos (t : ByteArray) : 1 ≤ (linesOf t).length := splitS_pos _ _

/-! ### The lines of signals, the kinds in turn -/
structure RS where
  p : PS
  c : Nat
def rsN (ls : List ByteArray) : Nat → RS
  | 0 => ⟨p0, 0⟩
  | k + 1 => if (rsN ls k).c < ls.length ∧ isKw (rsN ls k).p (splitS (nth ls (rsN ls k).c) 32) (k + 1) = true then ⟨wordP (rsN ls k).p (splitS (nth ls (rsN ls k).c) 32) (k + 1), (rsN ls k).c + 1⟩ else rsN ls k
structure RsOk (ls : List ByteArray) (k : Nat) (r : RS) : Prop where
  lines : linesS ls r.c = some r.p
  le : r.c ≤ ls.length
  k0 : 0 ≤ r.p.kind
  kk : r.p.kind ≤ k
  pl : r.p.places = 0
  tr : r.p.trs = []
  lb : r.p.labs = []
  st : r.p.start = ⟨#[]⟩
  ck : r.c ≤ k
  no : r.c < ls.length → ∀ j : Nat, r.p.kind < j → j ≤ k → isKw r.p (splitS (nth ls r.c) 32) j = false
theorem kw_not_start {k : Nat} (h : k < 4) : nth kwL k ≠ startW := by
  have : ∀ k, k < 4 → nth kwL k ≠ startW := by decide
  exact this k h
theorem rsN_yes {ls : List ByteArray} {k : Nat} (h : (rsN ls k).c < ls.length) (h2 : isKw (rsN ls k).p (splitS (nth ls (rsN ls k).c) 32) (k + 1) = true) : rsN ls (k + 1) = ⟨wordP (rsN ls k).p (splitS (nth ls (rsN ls k).c) 32) (k + 1), (rsN ls k).c + 1⟩ := by rw [rsN, if_pos ⟨h, h2⟩]
theorem rsN_no {ls : List ByteArray} {k : Nat} (h : ¬ ((rsN ls k).c < ls.length ∧ isKw (rsN ls k).p (splitS (nth ls (rsN ls k).c) 32) (k + 1) = true)) : rsN ls (k + 1) = rsN ls k := by rw [rsN, if_neg h]
theorem rsN_end {ls : List ByteArray} {k : Nat} (h : (rsN ls k).c = ls.length) : ∀ m, rsN ls (k + m) = rsN ls k
  | 0 => rfl
  | m + 1 => by
    rw [← Nat.add_assoc, rsN_no (by rw [rsN_end h m]; omega), rsN_end h m]
theorem rsN_ok (ls : List ByteArray) : ∀ k, k ≤ 3 → RsOk ls k (rsN ls k)
  | 0, _ => ⟨rfl, Nat.zero_le _, Int.le_refl _, Int.le_refl _, rfl, rfl, rfl, rfl, Nat.le_refl _, fun _ j h1 h2 => by simp only [rsN] at h1; omega⟩
  | k + 1, hk => by
    have ih := rsN_ok ls k (by omega)
    by_cases h : (rsN ls k).c < ls.length ∧ isKw (rsN ls k).p (splitS (nth ls (rsN ls k).c) 32) (k + 1) = true
    · rw [rsN_yes h.1 h.2]
      have hw := h.2
      rw [isKw, decide_eq_true_eq] at hw
      obtain ⟨a1, a2, a3, a4⟩ := hw
      have hall : ∀ j, j < k + 1 → isKw (rsN ls k).p (splitS (nth ls (rsN ls k).c) 32) j = false := by
        intro j hj
        by_cases hj2 : (rsN ls k).p.kind < j
        · exact ih.no h.1 j hj2 (by omega)
        · rw [isKw, decide_eq_false_iff_not]; rintro ⟨_, _, b, _⟩; exact hj2 b
      have hl : lineS (rsN ls k).p (splitS (nth ls (rsN ls k).c) 32) = some (wordP (rsN ls k).p (splitS (nth ls (rsN ls k).c) 32) (k + 1)) := by
        have := ih.kk
        rw [lineS, if_neg (by omega), if_neg (by rw [← a2]; exact kw_not_start (by omega))]
        exact wordS_yes (by omega) hall h.2
      refine ⟨(linesS_some ih.lines).trans hl, h.1, ?_, ?_, ih.pl, ih.tr, ih.lb, ih.st, Nat.succ_le_succ ih.ck, fun _ j h1 h2 => ?_⟩
      · simp only [wordP]; omega
      · simp only [wordP]; omega
      · simp only [wordP] at h1; omega
    · rw [rsN_no h]
      refine ⟨ih.lines, ih.le, ih.k0, by have := ih.kk; omega, ih.pl, ih.tr, ih.lb, ih.st, by have := ih.ck; omega, fun h1 j h2 h3 => ?_⟩
      rcases Nat.lt_or_ge k j with h4 | h4
      · obtain rfl : j = k + 1 := by omega
        cases e : isKw (rsN ls k).p (splitS (nth ls (rsN ls k).c) 32) (k + 1)
        · rfl
        · exact absurd ⟨h1, e⟩ h
      · exact ih.no h1 j h2 h4
/-- Behind the signals' lines no line is one of signals. -/
theorem rsN_stop {ls : List ByteArray} (h : (rsN ls 3).c < ls.length) : wordS (rsN ls 3).p (splitS (nth ls (rsN ls 3).c) 32) = none := by
  have ih := rsN_ok ls 3 (Nat.le_refl _)
  refine wordS_no fun j hj => ?_
  by_cases hj2 : (rsN ls 3).p.kind < j
  · exact ih.no h j hj2 (by omega)
  · rw [isKw, decide_eq_false_iff_not]; rintro ⟨_, _, b, _⟩; exact hj2 b
theorem rsN_line {ls : List ByteArray} (h : (rsN ls 3).c < ls.length) : lineS (rsN ls 3).p (splitS (nth ls (rsN ls 3).c) 32) = if nth (splitS (nth ls (rsN ls 3).c) 32) 0 = startW ∧ (splitS (nth ls (rsN ls 3).c) 32).length = 2 then some (startP (rsN ls 3).p (splitS (nth ls (rsN ls 3).c) 32)) else none := by
  have ih := rsN_ok ls 3 (Nat.le_refl _)
  have := ih.kk
  rw [lineS, if_neg (by omega), rsN_stop h]
  by_cases h1 : nth (splitS (nth ls (rsN ls 3).c) 32) 0 = startW
  · by_cases h2 : (splitS (nth ls (rsN ls 3).c) 32).length = 2
    · rw [if_pos h1, if_pos h2, if_pos ⟨h1, h2⟩]
    · rw [if_pos h1, if_neg h2, if_neg fun h => h2 h.2]
  · rw [if_neg h1, if_neg fun h => h1 h.1]

/-! ### The line of a transition -/
def placesB (ws : List ByteArray) : Bool := ws.all fun w => decide (0 ≤ twoS w)
def placesV (ws : List ByteArray) : List Int := if placesB ws = true then ws.map twoS else []
theorem placesB_snoc (ws : List ByteArray) (w : ByteArray) : placesB (ws ++ [w]) = (placesB ws && decide (0 ≤ twoS w)) := by simp [placesB]
theorem gt_two : twoS ⟨#[62]⟩ < 0 := by decide
def gtIx (ws : List ByteArray) : Int := findIx (fun y => decide ((⟨#[62]⟩ : ByteArray) = y)) ws
theorem rowS_ahead {l : List ByteArray} : ∀ {k : Nat}, k ≤ l.length → (∀ j, j < k → nth l j ≠ ⟨#[62]⟩) → rowS l k = if placesB (l.take k) = true then some ⟨false, (l.take k).map twoS, []⟩ else none
  | 0, _, _ => by simp [rowS, placesB]
  | k + 1, hk, hn => by
    have ih := rowS_ahead (l := l) (k := k) (by omega) fun j hj => hn j (by omega)
    rw [rowS, ih, take_nth (show k < l.length by omega), placesB_snoc]
    cases hb : placesB (l.take k)
    · simp
    · simp only [if_true, Bool.true_and, decide_eq_true_eq]
      rw [if_neg (by intro h; exact hn k (by omega) h.1)]
      by_cases h2 : twoS (nth l k) < 0
      · rw [if_pos h2, if_neg (by omega)]
      · rw [if_neg h2]; simp; omega
theorem rowS_behind {l : List ByteArray} {k : Nat} {pre : List Int} (h : rowS l k = some ⟨true, pre, []⟩) : ∀ {m : Nat}, k + m ≤ l.length → rowS l (k + m) = if placesB ((l.drop k).take m) = true then some ⟨true, pre, ((l.drop k).take m).map twoS⟩ else none
  | 0, _ => by simp [placesB, h]
  | m + 1, hm => by
    have ih := rowS_behind h (m := m) (by omega)
    have hd : nth (l.drop k) m = nth l (k + m) := by
      rw [nth_get (by rw [List.length_drop]; omega), nth_get (by omega), List.getElem_drop]
    rw [← Nat.add_assoc, rowS, ih, take_nth (show m < (l.drop k).length by rw [List.length_drop]; omega), placesB_snoc, hd]
    cases hb : placesB ((l.drop k).take m)
    · simp
    · simp only [if_true, Bool.true_and, decide_eq_true_eq]
      rw [if_neg (by intro h; simp at h)]
      by_cases h2 : twoS (nth l (k + m)) < 0
      · rw [if_pos h2, if_neg (by omega)]
      · rw [if_neg h2]; simp; omega
def lbOk (sigs : List Sig) (x : ByteArray) : Bool := (labO sigs x).isSome
def labV (sigs : List Sig) (x : ByteArray) : Lab :=
  if x = ⟨#[126]⟩ then ⟨-1, false⟩
  else if 1 ≤ (x.size : Int) - 1 ∧ (bAt x ((x.size : Int) - 1) = 43 ∨ bAt x ((x.size : Int) - 1) = 45) then ⟨wSig sigs (x.extract 0 ((x.size : Int) - 1).toNat), decide (bAt x ((x.size : Int) - 1) = 43)⟩ else ⟨0, false⟩
theorem labO_V {sigs : List Sig} {x : ByteArray} (h : lbOk sigs x = true) : labO sigs x = some (labV sigs x) := by
  unfold lbOk labO at h
  unfold labO labV
  by_cases h1 : x = ⟨#[126]⟩
  · rw [if_pos h1, if_pos h1]
  · rw [if_neg h1] at h ⊢
    by_cases h2 : 1 ≤ (x.size : Int) - 1 ∧ (bAt x ((x.size : Int) - 1) = 43 ∨ bAt x ((x.size : Int) - 1) = 45) ∧ 0 ≤ wSig sigs (x.extract 0 ((x.size : Int) - 1).toNat)
    · rw [if_pos h2, if_neg h1, if_pos ⟨h2.1, h2.2.1⟩]
    · rw [if_neg h2] at h; simp at h
theorem labO_N {sigs : List Sig} {x : ByteArray} (h : lbOk sigs x = false) : labO sigs x = none := by
  unfold lbOk at h
  cases e : labO sigs x with
  | none => rfl
  | some l => rw [e] at h; simp at h
structure RT where
  lab : Lab
  pre : List Int
  post : List Int
  ok : Bool
def preW (ws : List ByteArray) : List ByteArray := (ws.take (gtIx ws).toNat).drop 1
def postW (ws : List ByteArray) : List ByteArray := ws.drop (gtIx ws + 1).toNat
/-- A line of a transition, as the program reads it. -/
def rtS (sigs : List Sig) (ws : List ByteArray) : RT :=
  if lbOk sigs (nth ws 0) = true ∧ 1 ≤ gtIx ws then ⟨labV sigs (nth ws 0), placesV (preW ws), placesV (postW ws), placesB (preW ws) && placesB (postW ws)⟩ else ⟨⟨0, false⟩, [], [], false⟩
theorem rtS_yes {sigs : List Sig} {ws : List ByteArray} (h : lbOk sigs (nth ws 0) = true) (h2 : 1 ≤ gtIx ws) : rtS sigs ws = ⟨labV sigs (nth ws 0), placesV (preW ws), placesV (postW ws), placesB (preW ws) && placesB (postW ws)⟩ := by rw [rtS, if_pos ⟨h, h2⟩]
theorem rtS_no {sigs : List Sig} {ws : List ByteArray} (h : ¬ (lbOk sigs (nth ws 0) = true ∧ 1 ≤ gtIx ws)) : rtS sigs ws = ⟨⟨0, false⟩, [], [], false⟩ := by rw [rtS, if_neg h]
theorem nth_drop1 {α : Type} [Inhabited α] {l : List α} {j : Nat} (h : j + 1 < l.length) : nth (l.drop 1) j = nth l (j + 1) := by
  rw [nth_get (by rw [List.length_drop]; omega), nth_get h, List.getElem_drop]
  congr 1; omega
theorem transS_rt (p : PS) (ws : List ByteArray) (h1 : 1 ≤ ws.length) : transS p ws = if (rtS p.sigs ws).ok = true then some (transP p (rtS p.sigs ws).lab ⟨true, (rtS p.sigs ws).pre, (rtS p.sigs ws).post⟩) else none := by
  cases hl : lbOk p.sigs (nth ws 0)
  · rw [rtS_no (by rw [hl]; simp), transS_lab (labO_N hl)]; simp
  have hlb := labO_V hl
  have hld : (ws.drop 1).length = ws.length - 1 := List.length_drop
  by_cases hg : 1 ≤ gtIx ws
  · obtain ⟨k, k1, k2, k3, k4⟩ := findIx_spec (p := fun y => decide ((⟨#[62]⟩ : ByteArray) = y)) (l := ws) (by unfold gtIx at hg; omega)
    obtain ⟨i, rfl⟩ : ∃ i, k = i + 1 := ⟨k - 1, by unfold gtIx at hg; omega⟩
    have eg : gtIx ws = ((i + 1 : Nat) : Int) := k2
    have e1 : preW ws = (ws.drop 1).take i := by
      unfold preW
      rw [eg, Int.toNat_natCast, List.drop_take]; rfl
    have e2 : postW ws = (ws.drop 1).drop (i + 1) := by
      unfold postW
      rw [eg, List.drop_drop, show (((i + 1 : Nat) : Int) + 1).toNat = 1 + (i + 1) by omega]
    have hn : ∀ j, j < i → nth (ws.drop 1) j ≠ ⟨#[62]⟩ := by
      intro j hj h
      have := k4 (j + 1) (by omega)
      rw [nth_drop1 (by omega)] at h
      simp [h] at this
    have hw : nth (ws.drop 1) i = ⟨#[62]⟩ := by
      rw [nth_drop1 k1]
      simpa using (of_decide_eq_true k3).symm
    have hA := rowS_ahead (l := ws.drop 1) (k := i) (by omega) hn
    rw [rtS_yes hl hg, e1, e2]
    cases ha : placesB ((ws.drop 1).take i)
    · rw [ha] at hA
      simp only [Bool.false_eq_true, if_false] at hA
      rw [transS_row (j := i) (by omega) hA]; simp
    · rw [ha] at hA
      simp only [if_true] at hA
      have hG := rowS_gt hA hw
      have hB := rowS_behind hG (m := (ws.drop 1).length - (i + 1)) (by omega)
      rw [show i + 1 + ((ws.drop 1).length - (i + 1)) = (ws.drop 1).length by omega, List.take_of_length_le (l := (ws.drop 1).drop (i + 1)) (by rw [List.length_drop (l := ws.drop 1)]; omega)] at hB
      cases hb : placesB ((ws.drop 1).drop (i + 1))
      · rw [hb] at hB
        simp only [Bool.false_eq_true, if_false] at hB
        rw [transS_row (Nat.le_refl _) hB]; simp
      · rw [hb] at hB
        simp only [if_true] at hB
        rw [transS_yes hlb hB]
        simp only [placesV, ha, hb, Bool.and_self, if_true]
  · rw [rtS_no fun h => hg h.2]
    simp only [Bool.false_eq_true, if_false]
    have hge := findIx_ge (fun y => decide ((⟨#[62]⟩ : ByteArray) = y)) ws
    by_cases h0 : gtIx ws = 0
    · obtain ⟨k, k1, k2, k3, k4⟩ := findIx_spec (p := fun y => decide ((⟨#[62]⟩ : ByteArray) = y)) (l := ws) (by unfold gtIx at h0; omega)
      have : k = 0 := by unfold gtIx at h0; omega
      subst this
      have e := (of_decide_eq_true k3).symm
      rw [e] at hl
      have : lbOk p.sigs ⟨#[62]⟩ = false := by
        have : labO p.sigs ⟨#[62]⟩ = none := labO_no (by decide) (fun h => by have := h.1; simp [ByteArray.size] at this)
        rw [lbOk, this]; rfl
      rw [this] at hl
      cases hl
    · have hm : gtIx ws = -1 := by unfold gtIx at h0 hg ⊢; omega
      have hany := findIx_any (fun y => decide ((⟨#[62]⟩ : ByteArray) = y)) ws
      rw [show findIx (fun y => decide ((⟨#[62]⟩ : ByteArray) = y)) ws = -1 from hm] at hany
      have hall : ∀ x ∈ ws, x ≠ ⟨#[62]⟩ := by
        intro x hx e
        have h2 : (ws.any fun y => decide ((⟨#[62]⟩ : ByteArray) = y)) = true := List.any_eq_true.2 ⟨x, hx, by simp [e]⟩
        rw [← hany] at h2
        simp at h2
      have hA := rowS_ahead (l := ws.drop 1) (k := (ws.drop 1).length) (Nat.le_refl _) fun j hj => hall _ (List.mem_of_mem_drop (nth_mem hj))
      cases ha : placesB ((ws.drop 1).take (ws.drop 1).length)
      · rw [ha] at hA
        exact transS_row (Nat.le_refl _) hA
      · rw [ha] at hA
        exact transS_no hA

/-! ### A word, cut off a line -/
def hasW (s w : ByteArray) : Bool := Go.Lib.hasPrefix s.data.toList (w ++ ⟨#[32]⟩).data.toList
def offW (s w : ByteArray) : ByteArray := ⟨(Go.Lib.trimPrefix s.data.toList (w ++ ⟨#[32]⟩).data.toList).toArray⟩
theorem app_data (w : ByteArray) : (w ++ ⟨#[32]⟩).data.toList = w.data.toList ++ [32] := by simp
theorem pieces32 (s : ByteArray) : splitS s 32 = (pieces 32 s.data.toList).map ofL := splitS_pieces s 32 rfl
theorem nth_ofL {l : List (List UInt8)} (h : 0 < l.length) : nth (l.map ofL) 0 = ofL (nth l 0) := by
  rw [nth_get (by simpa using h), nth_get h, List.getElem_map]
theorem hasW_iff {s w : ByteArray} (hw : (32 : UInt8) ∉ w.data.toList) : hasW s w = true ↔ nth (splitS s 32) 0 = w ∧ 2 ≤ (splitS s 32).length := by
  unfold hasW Go.Lib.hasPrefix
  rw [app_data, prefix_pieces hw, pieces32, List.length_map]
  have hp := List.length_pos_iff.2 (pieces_ne 32 s.data.toList)
  rw [nth_ofL hp]
  constructor
  · rintro ⟨a, b⟩; exact ⟨by rw [a, ofL_data], b⟩
  · rintro ⟨a, b⟩; exact ⟨by rw [← a, data_ofL], b⟩
theorem offW_rest {s w : ByteArray} (hw : (32 : UInt8) ∉ w.data.toList) (h : hasW s w = true) : splitS (offW s w) 32 = (splitS s 32).drop 1 := by
  have h' := h
  unfold hasW at h
  unfold Go.Lib.hasPrefix at h
  have e : (offW s w).data.toList = s.data.toList.drop (w.data.toList.length + 1) := by
    unfold offW Go.Lib.trimPrefix
    unfold hasW at h'
    rw [if_pos h', app_data]
    simp
  rw [app_data] at h
  rw [pieces32, pieces32, e, prefix_rest hw h, List.map_drop]
def hasB (s : ByteArray) : Bool := decide (0 ≤ Go.Lib.indexByte s.data.toList 32)
theorem hasB_iff (s : ByteArray) : hasB s = true ↔ 2 ≤ (splitS s 32).length := by
  rw [hasB, byte_in, pieces32, List.length_map]
theorem split_one {s : ByteArray} (h : (splitS s 32).length = 1) : splitS s 32 = [s] := by
  rw [pieces32, List.length_map, pieces_one] at h
  rw [pieces32, pieces_no h, List.map_cons, List.map_nil, ofL_data]
theorem kw_plain {k : Nat} (h : k < 4) : (32 : UInt8) ∉ (nth kwL k).data.toList := by
  have : ∀ k, k < 4 → (32 : UInt8) ∉ (nth kwL k).data.toList := by decide
  exact this k h
theorem start_plain : (32 : UInt8) ∉ startW.data.toList := by decide
theorem start_off {s : ByteArray} (h : hasW s startW = true) (h2 : (splitS s 32).length = 2) : offW s startW = nth (splitS s 32) 1 := by
  have e := offW_rest start_plain h
  have h3 : (splitS (offW s startW) 32).length = 1 := by rw [e, List.length_drop]; omega
  rw [split_one h3] at e
  have : nth [offW s startW] 0 = nth ((splitS s 32).drop 1) 0 := by rw [e]
  rw [nth_drop1 (by omega)] at this
  exact this
theorem offW_size (s w : ByteArray) : (offW s w).size ≤ s.size := by
  have : (offW s w).size = (Go.Lib.trimPrefix s.data.toList (w ++ ⟨#[32]⟩).data.toList).length := by simp [offW, ByteArray.size]
  rw [this]
  unfold Go.Lib.trimPrefix
  have e : s.data.toList.length = s.size := (Go.Lib.size_eq s).symm
  split
  · rw [List.length_drop]; omega
  · omega
/-- The line of the start. -/
theorem rsN_start {ls : List ByteArray} (h : (rsN ls 3).c < ls.length) : lineS (rsN ls 3).p (splitS (nth ls (rsN ls 3).c) 32) = if hasW (nth ls (rsN ls 3).c) startW = true ∧ hasB (offW (nth ls (rsN ls 3).c) startW) = false then some { (rsN ls 3).p with places := (offW (nth ls (rsN ls 3).c) startW).size, start := offW (nth ls (rsN ls 3).c) startW, kind := 4 } else none := by
  rw [rsN_line h]
  generalize nth ls (rsN ls 3).c = x
  by_cases hw : hasW x startW = true
  · obtain ⟨a, b⟩ := (hasW_iff start_plain).1 hw
    have e := offW_rest start_plain hw
    cases hb : hasB (offW x startW)
    · have h2 : ¬ 2 ≤ (splitS (offW x startW) 32).length := fun h => by rw [(hasB_iff _).2 h] at hb; cases hb
      rw [e, List.length_drop] at h2
      have h3 : (splitS x 32).length = 2 := by omega
      rw [if_pos ⟨a, h3⟩, if_pos ⟨hw, rfl⟩, start_off hw h3]; rfl
    · have h2 := (hasB_iff _).1 hb
      rw [e, List.length_drop] at h2
      rw [if_neg (by rintro ⟨_, h⟩; omega), if_neg (by simp)]
  · rw [if_neg fun h => hw ((hasW_iff start_plain).2 ⟨h.1, by omega⟩), if_neg fun h => hw h.1]
/-- A kind's line of signals. -/
theorem rsN_kw {ls : List ByteArray} {k : Nat} (hk : k + 1 ≤ 3) (h : (rsN ls k).c < ls.length) : isKw (rsN ls k).p (splitS (nth ls (rsN ls k).c) 32) (k + 1) = hasW (nth ls (rsN ls k).c) (nth kwL (k + 1)) := by
  have ih := (rsN_ok ls k (by omega)).kk
  have hw := hasW_iff (s := nth ls (rsN ls k).c) (kw_plain (show k + 1 < 4 by omega))
  cases e : hasW (nth ls (rsN ls k).c) (nth kwL (k + 1))
  · rw [isKw, decide_eq_false_iff_not]
    rintro ⟨_, b, _, d⟩
    rw [hw.2 ⟨b.symm, d⟩] at e; cases e
  · obtain ⟨a, b⟩ := hw.1 e
    rw [isKw, decide_eq_true_eq]
    exact ⟨by omega, a.symm, by omega, b⟩
end Go.Proofs.YtcpjhpjlcgcigaaGreatDoor
namespace Go.Proofs.YtcpjhpjlcgcigaaGreatDoor
open Go.ChangeShapes Go.WideShapes Go.ChangeAt Go.RowKit

def dig8 (a : UInt8) : Prop := 48 ≤ a.toNat ∧ a.toNat ≤ 57
instance (a : UInt8) : Decidable (dig8 a) := inferInstanceAs (Decidable (_ ∧ _))
theorem twoV1 (a : UInt8) : twoS (ofL [a]) = if dig8 a then (a.toNat : Int) - 48 else -1 := by
  have hs : (ofL [a]).size = 1 := ofL_size _
  have h0 : bAt (ofL [a]) ((0 : Nat) : Int) = (a.toNat : Int) := (bAt_data (k := 0) (by rw [hs]; omega)).2 (by rw [data_ofL]; rfl)
  have hd : digsB (ofL [a]) 1 = decide (dig8 a) := by
    rw [digsB, decide_eq_decide]
    unfold dig8
    constructor
    · intro h
      have := h 0 (by omega)
      rw [digB, decide_eq_true_eq, h0] at this
      omega
    · intro h j hj
      obtain rfl : j = 0 := by omega
      rw [digB, decide_eq_true_eq, h0]
      omega
  rw [twoS, if_pos (by omega), readS, hs, hd]
  by_cases h : dig8 a
  · rw [if_pos ⟨by omega, by omega, by omega, by simpa using h⟩, if_pos h]
    simp only [valS, h0]; omega
  · rw [if_neg (by rintro ⟨_, _, _, h'⟩; exact h (by simpa using h')), if_neg h]
theorem twoV2 (a b : UInt8) : twoS (ofL [a, b]) = if dig8 a ∧ a.toNat ≠ 48 ∧ dig8 b then 10 * ((a.toNat : Int) - 48) + ((b.toNat : Int) - 48) else -1 := by
  have hs : (ofL [a, b]).size = 2 := ofL_size _
  have h0 : bAt (ofL [a, b]) ((0 : Nat) : Int) = (a.toNat : Int) := (bAt_data (k := 0) (by rw [hs]; omega)).2 (by rw [data_ofL]; rfl)
  have h1 : bAt (ofL [a, b]) ((1 : Nat) : Int) = (b.toNat : Int) := (bAt_data (k := 1) (by rw [hs]; omega)).2 (by rw [data_ofL]; rfl)
  have h0' : bAt (ofL [a, b]) 0 = (a.toNat : Int) := h0
  have hd : digsB (ofL [a, b]) 2 = decide (dig8 a ∧ dig8 b) := by
    rw [digsB, decide_eq_decide]
    unfold dig8
    constructor
    · intro h
      have g0 := h 0 (by omega)
      have g1 := h 1 (by omega)
      rw [digB, decide_eq_true_eq, h0] at g0
      rw [digB, decide_eq_true_eq, h1] at g1
      omega
    · intro h j hj
      rcases (show j = 0 ∨ j = 1 by omega) with rfl | rfl
      · rw [digB, decide_eq_true_eq, h0]; omega
      · rw [digB, decide_eq_true_eq, h1]; omega
  rw [twoS, if_pos (by omega), readS, hs, hd, h0']
  by_cases h : dig8 a ∧ a.toNat ≠ 48 ∧ dig8 b
  · rw [if_pos ⟨by omega, by omega, by have := h.2.1; omega, by simpa using ⟨h.1, h.2.2⟩⟩, if_pos h]
    simp only [valS, h0, h1]; omega
  · rw [if_neg h, if_neg]
    rintro ⟨_, _, h2, h3⟩
    have h3 : dig8 a ∧ dig8 b := by simpa using h3
    exact h ⟨h3.1, by intro e; exact h2 ⟨by omega, by omega⟩, h3.2⟩
theorem twoV0 : twoS (ofL []) = -1 := by decide
theorem twoS_long {s : ByteArray} (h : ¬ s.size ≤ 2) : twoS s = -1 := by rw [twoS, if_neg h]
theorem atoi1 (a : UInt8) : Go.Lib.atoiAll [a] = if dig8 a then .ok ((a.toNat : Int) - 48) else Go.Lib.atoiAll [] := by
  have hd : dig8 a ↔ 48 ≤ a.toNat ∧ a.toNat ≤ 57 := Iff.rfl
  simp only [Go.Lib.atoiAll, Go.Lib.parseMag]
  by_cases h1 : a.toNat = 43 ∨ a.toNat = 45
  · rw [if_pos h1, if_pos rfl, if_neg (c := dig8 a) (by rw [hd]; omega)]
  · rw [if_neg h1, if_neg (by simp)]
    simp only [Go.Lib.parseUint10]
    by_cases h2 : dig8 a
    · have h2' := hd.1 h2
      rw [if_pos h2', if_neg (by omega), if_neg (by omega), if_pos h2]
      simp only
      rw [if_neg (by omega), if_neg (by omega), if_neg (by omega)]
      congr 1; omega
    · rw [if_neg (c := dig8 a) h2, if_neg (fun h => h2 (hd.2 h))]
theorem atoi2 (a b : UInt8) : Go.Lib.atoiAll [a, b] = if dig8 b then (if a.toNat = 43 then .ok ((b.toNat : Int) - 48) else if a.toNat = 45 then .ok (-((b.toNat : Int) - 48)) else if dig8 a then .ok (10 * ((a.toNat : Int) - 48) + ((b.toNat : Int) - 48)) else Go.Lib.atoiAll []) else Go.Lib.atoiAll [] := by
  have hda : dig8 a ↔ 48 ≤ a.toNat ∧ a.toNat ≤ 57 := Iff.rfl
  have hdb : dig8 b ↔ 48 ≤ b.toNat ∧ b.toNat ≤ 57 := Iff.rfl
  simp only [Go.Lib.atoiAll, Go.Lib.parseMag]
  by_cases h1 : a.toNat = 43 ∨ a.toNat = 45
  · rw [if_pos h1, if_neg (by simp)]
    simp only [Go.Lib.parseUint10]
    by_cases h2 : dig8 b
    · have h2' := hdb.1 h2
      rw [if_pos h2', if_neg (by omega), if_neg (by omega), if_pos h2]
      simp only
      rw [if_neg (by omega), if_neg (by omega)]
      by_cases h3 : a.toNat = 43
      · rw [if_neg (by omega), if_pos h3]; congr 1; omega
      · rw [if_pos (by omega), if_neg h3, if_pos (by omega)]; congr 1; omega
    · rw [if_neg (c := dig8 b) h2, if_neg (fun h => h2 (hdb.2 h))]
  · rw [if_neg h1, if_neg (by simp)]
    simp only [Go.Lib.parseUint10]
    by_cases h4 : dig8 a
    · have h4' := hda.1 h4
      rw [if_pos h4', if_neg (by omega), if_neg (by omega)]
      by_cases h2 : dig8 b
      · have h2' := hdb.1 h2
        rw [if_pos h2', if_neg (by omega), if_neg (by omega), if_pos h2]
        simp only
        rw [if_neg (by omega), if_neg (by omega), if_neg (by omega), if_neg (by omega), if_neg (by omega), if_pos h4]
        congr 1; omega
      · rw [if_neg (c := dig8 b) h2, if_neg (fun h => h2 (hdb.2 h))]
    · rw [if_neg (c := 48 ≤ a.toNat ∧ a.toNat ≤ 57) (fun h => h4 (hda.2 h))]
      by_cases h2 : dig8 b
      · rw [if_pos h2, if_neg (by omega), if_neg (by omega), if_neg h4]
      · rw [if_neg h2]
theorem num_one {n : Nat} (h : n < 10) (l : List UInt8) : numL n = l ↔ ∃ a : UInt8, l = [a] ∧ a.toNat = 48 + n := by
  rw [numL, if_pos h]
  have e : (UInt8.ofNat (48 + n)).toNat = 48 + n := by rw [UInt8.toNat_ofNat']; omega
  constructor
  · rintro rfl; exact ⟨_, rfl, e⟩
  · rintro ⟨a, rfl, h2⟩
    rw [UInt8.toNat_inj.1 (e.trans h2.symm)]
theorem num_two {n : Nat} (h : ¬ n < 10) (h2 : n < 100) (l : List UInt8) : numL n = l ↔ ∃ a b : UInt8, l = [a, b] ∧ a.toNat = 48 + n / 10 ∧ b.toNat = 48 + n % 10 := by
  rw [numL, if_neg h]
  have e1 : (UInt8.ofNat (48 + n / 10)).toNat = 48 + n / 10 := by rw [UInt8.toNat_ofNat']; omega
  have e2 : (UInt8.ofNat (48 + n % 10)).toNat = 48 + n % 10 := by rw [UInt8.toNat_ofNat']; omega
  constructor
  · rintro rfl; exact ⟨_, _, rfl, e1, e2⟩
  · rintro ⟨a, b, rfl, h3, h4⟩
    rw [UInt8.toNat_inj.1 (e1.trans h3.symm), UInt8.toNat_inj.1 (e2.trans h4.symm)]
structure PlaceF (s : ByteArray) (v : Int) : Prop where
  lo : -9 ≤ v
  hi : v ≤ 99
  iff : 0 ≤ twoS s ↔ (0 ≤ v ∧ numB v.toNat = s)
  eq : 0 ≤ twoS s → twoS s = v
theorem numB_ofL {n : Nat} {l : List UInt8} : numB n = ofL l ↔ numL n = l := by
  unfold numB ofL
  constructor
  · intro h
    have := congrArg (fun x : ByteArray => x.data.toList) h
    simpa using this
  · intro h; rw [h]
theorem place_ok {s : ByteArray} {v : Int} (h2 : s.size ≤ 2) (ha : Go.Lib.atoiAll s.data.toList = .ok v) : PlaceF s v := by
  rw [← ofL_data s]
  rw [Go.Lib.size_eq] at h2
  generalize s.data.toList = l at h2 ha
  match l, h2 with
  | [], _ => simp [Go.Lib.atoiAll] at ha
  | [a], _ =>
    rw [atoi1] at ha
    by_cases h : dig8 a
    · rw [if_pos h] at ha
      simp only [Go.Lib.NumEnd.ok.injEq] at ha
      subst ha
      have hd := h
      unfold dig8 at hd
      have e : twoS (ofL [a]) = (a.toNat : Int) - 48 := by rw [twoV1, if_pos h]
      refine ⟨by omega, by omega, ?_, fun _ => e⟩
      rw [e, numB_ofL, num_one (by omega)]
      constructor
      · intro h0; exact ⟨h0, a, rfl, by omega⟩
      · rintro ⟨h0, _⟩; exact h0
    · rw [if_neg h] at ha; simp [Go.Lib.atoiAll] at ha
  | [a, b], _ =>
    rw [atoi2] at ha
    have e := twoV2 a b
    by_cases hb : dig8 b
    · rw [if_pos hb] at ha
      have hb' := hb
      unfold dig8 at hb'
      have sign : ∀ w : Int, -9 ≤ w → w ≤ 9 → (a.toNat = 43 ∨ a.toNat = 45) → PlaceF (ofL [a, b]) w := by
        intro w h1 h3 hs
        have hn : ¬ dig8 a := by unfold dig8; omega
        rw [if_neg fun h => hn h.1] at e
        refine ⟨by omega, by omega, ?_, fun h => by omega⟩
        constructor
        · intro h; omega
        · rintro ⟨h0, h4⟩
          rw [numB_ofL, num_one (by omega)] at h4
          obtain ⟨_, h5, _⟩ := h4
          simp at h5
      by_cases h43 : a.toNat = 43
      · rw [if_pos h43] at ha
        simp only [Go.Lib.NumEnd.ok.injEq] at ha
        subst ha
        exact sign _ (by omega) (by omega) (Or.inl h43)
      · rw [if_neg h43] at ha
        by_cases h45 : a.toNat = 45
        · rw [if_pos h45] at ha
          simp only [Go.Lib.NumEnd.ok.injEq] at ha
          subst ha
          exact sign _ (by omega) (by omega) (Or.inr h45)
        · rw [if_neg h45] at ha
          by_cases hda : dig8 a
          · rw [if_pos hda] at ha
            simp only [Go.Lib.NumEnd.ok.injEq] at ha
            subst ha
            have hda' := hda
            unfold dig8 at hda'
            by_cases h48 : a.toNat = 48
            · rw [if_neg fun h => h.2.1 h48] at e
              refine ⟨by omega, by omega, ?_, fun h => by omega⟩
              constructor
              · intro h; omega
              · rintro ⟨h0, h4⟩
                rw [numB_ofL, num_one (by omega)] at h4
                obtain ⟨_, h5, _⟩ := h4
                simp at h5
            · rw [if_pos ⟨hda, h48, hb⟩] at e
              refine ⟨by omega, by omega, ?_, fun _ => e⟩
              rw [e, numB_ofL, num_two (by omega) (by omega)]
              constructor
              · intro h0; exact ⟨h0, a, b, rfl, by omega, by omega⟩
              · rintro ⟨h0, _⟩; exact h0
          · rw [if_neg hda] at ha; simp [Go.Lib.atoiAll] at ha
    · rw [if_neg hb] at ha; simp [Go.Lib.atoiAll] at ha
  | _ :: _ :: _ :: _, h2 => simp at h2
theorem place_no {s : ByteArray} (ha : ∀ v, Go.Lib.atoiAll s.data.toList ≠ .ok v) : twoS s < 0 := by
  by_cases h2 : s.size ≤ 2
  · rw [← ofL_data s]
    rw [Go.Lib.size_eq] at h2
    generalize s.data.toList = l at h2 ha
    match l, h2 with
    | [], _ => rw [twoV0]; decide
    | [a], _ =>
      rw [twoV1]
      by_cases h : dig8 a
      · exact absurd (by rw [atoi1, if_pos h]) (ha _)
      · rw [if_neg h]; decide
    | [a, b], _ =>
      rw [twoV2]
      by_cases h : dig8 a ∧ a.toNat ≠ 48 ∧ dig8 b
      · have h1 := h.1
        unfold dig8 at h1
        exact absurd (by rw [atoi2, if_pos h.2.2, if_neg (by omega), if_neg (by omega), if_pos h.1]) (ha _)
      · rw [if_neg h]; decide
    | _ :: _ :: _ :: _, h2 => simp at h2
  · rw [twoS_long h2]; decide
end Go.Proofs.YtcpjhpjlcgcigaaGreatDoor
