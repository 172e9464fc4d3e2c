/- Rows of an array of transitions of the call's own: taken out, changed in place, put back. No condition. Rows of an array of transitions: opened, shut, read and written one number at a time. No condition. -/
import Derived.Test.YtcbfpeplcbgpjaaTag
import Derived.Test.YtcbfpeplcbgpjaaPinA
set_option linter.unusedSimpArgs false
set_option linter.unusedVariables false
namespace Go.Proofs.Ytcbfpeplcbgpjaa
open Go.ChangeShapes Go.WideShapes Go.ChangeAt Go.RowKit

def dP (q : Value × Value) : List D := [.lit q.1, .lit q.2]
def flP (ps : List (Value × Value)) : List Value := ps.flatMap fun q => [q.1, q.2]
/-- The slices ps read as the rows of ts, over blocks of their own. -/
def RowsT (ps : List (Value × Value)) (ts : List Tr) (w : World) (_ : Value) (top : Option Nat) (nest : List Nat) : Prop :=
  top = none ∧ VRs w (ts.map dTr).flatten (flP ps) nest ∧ ∀ k ∈ nest, Un w k
/-- The slice u reads as the row p, over a block of its own. -/
def RowU (u : Value) (p : List Int) (w : World) (_ : Value) (top : Option Nat) (nest : List Nat) : Prop :=
  nest = [] ∧ VR w (.sh 1 (ints p)) u top.toList ∧ ∀ k ∈ top.toList, Un w k
theorem RowsT.keep {w w' : World} {ps : List (Value × Value)} {ts : List Tr} {v : Value} {top : Option Nat} {nest : List Nat} (h : RowsT ps ts w v top nest) (hk : ∀ k ∈ top.toList ++ nest, w'.heap[k]? = w.heap[k]?) : RowsT ps ts w' v top nest :=
  ⟨h.1, h.2.1.keep fun k m => hk k (List.mem_append_right _ m), fun k m => (h.2.2 k m).keep (hk k (List.mem_append_right _ m))⟩
theorem RowU.keep {w w' : World} {u : Value} {p : List Int} {v : Value} {top : Option Nat} {nest : List Nat} (h : RowU u p w v top nest) (hk : ∀ k ∈ top.toList ++ nest, w'.heap[k]? = w.heap[k]?) : RowU u p w' v top nest :=
  ⟨h.1, h.2.1.keep fun k m => hk k (List.mem_append_left _ m), fun k m => (h.2.2 k m).keep (hk k (List.mem_append_left _ m))⟩
theorem row_bs {w : World} {p : List Int} {u : Value} {bs : List Nat} (h : VR w (.sh 1 (ints p)) u bs) : ∃ o : Option Nat, bs = o.toList := by
  generalize hx : D.sh 1 (ints p) = d at h
  cases h with
  | lit _ => cases hx
  | nil => cases hx
  | tag _ => cases hx
  | shnil _ _ => exact ⟨none, rfl⟩
  | sh h1 h2 h3 h4 h5 h6 =>
    injection hx with _ e
    subst e
    have : ∀ d ∈ (ints p).flatten, isLit d = true := by
      intro d hd
      obtain ⟨r, hr, hd⟩ := List.mem_flatten.1 hd
      simp only [ints, List.mem_map] at hr
      obtain ⟨x, _, rfl⟩ := hr
      simp only [List.mem_singleton] at hd
      subst hd; rfl
    rw [VRs.flat this h5]
    exact ⟨some _, rfl⟩

/-! ### What can stand while blocks change hands -/
mutual
def firm (N : Nat) : D → Bool
  | .no => true
  | .lit _ => true
  | .nil => true
  | .val _ => true
  | .own i => Nat.blt i N
  | .ptr i _ => Nat.blt i N
  | .agg ds => firmL N ds
  | .tup ds => firmL N ds
  | _ => false
def firmL (N : Nat) : List D → Bool
  | [] => true
  | d :: ds => match firm N d with | true => firmL N ds | false => false
end
section
variable {ms ms' : List Ent} {w : World} {Ok Ok' : Nat → Prop} {N : Nat}
theorem firmL_cons {d : D} {ds : List D} (h : firmL N (d :: ds) = true) : firm N d = true ∧ firmL N ds = true := by
  unfold firmL at h
  cases hd : firm N d with
  | true => rw [hd] at h; exact ⟨rfl, h⟩
  | false => rw [hd] at h; cases h
mutual
theorem VX.firm (hm : ∀ (i : Nat) (e : Ent), i < N → ms[i]? = some e → ∃ e', ms'[i]? = some e' ∧ e'.v = e.v ∧ e'.top = e.top) : ∀ {d : D} {u : Value}, Go.Proofs.Ytcbfpeplcbgpjaa.firm N d = true → VX ms w Ok d u → VX ms' w Ok' d u
  | _, _, _, .no => .no
  | d, u, hf, .rd (bs := bs) h h' => by
    cases h with
    | lit h => exact .rd (.lit h) (by simp)
    | nil => exact .rd .nil (by simp)
    | shnil _ _ => simp [Go.Proofs.Ytcbfpeplcbgpjaa.firm] at hf
    | sh _ _ _ _ _ _ => simp [Go.Proofs.Ytcbfpeplcbgpjaa.firm] at hf
    | tag _ => simp [Go.Proofs.Ytcbfpeplcbgpjaa.firm] at hf
  | _, _, hf, .own h h' => by
    obtain ⟨e', h1, h2, _⟩ := hm _ _ (by simpa [Go.Proofs.Ytcbfpeplcbgpjaa.firm, Nat.blt_eq] using hf) h
    rw [← h2]; exact .own h1 (by rw [h2]; exact h')
  | _, _, hf, .vec h h' => by simp [Go.Proofs.Ytcbfpeplcbgpjaa.firm] at hf
  | _, _, hf, .ptr h h' => by
    obtain ⟨e', h1, _, h3⟩ := hm _ _ (by simpa [Go.Proofs.Ytcbfpeplcbgpjaa.firm, Nat.blt_eq] using hf) h
    exact .ptr h1 (by rw [h3]; exact h')
  | _, _, hf, .eptr h h' => by simp [Go.Proofs.Ytcbfpeplcbgpjaa.firm] at hf
  | _, _, hf, .part h h' h2 => by simp [Go.Proofs.Ytcbfpeplcbgpjaa.firm] at hf
  | _, _, hf, .sptr h h1 h2 h3 => by simp [Go.Proofs.Ytcbfpeplcbgpjaa.firm] at hf
  | _, _, hf, .agg h => .agg (VXs.firm hm (by simpa [Go.Proofs.Ytcbfpeplcbgpjaa.firm] using hf) h)
  | _, _, hf, .tup h => .tup (VXs.firm hm (by simpa [Go.Proofs.Ytcbfpeplcbgpjaa.firm] using hf) h)
  | _, _, hf, .fn h => by simp [Go.Proofs.Ytcbfpeplcbgpjaa.firm] at hf
  | _, _, hf, .old h h' => by simp [Go.Proofs.Ytcbfpeplcbgpjaa.firm] at hf
  | _, _, _, .val => .val
theorem VXs.firm (hm : ∀ (i : Nat) (e : Ent), i < N → ms[i]? = some e → ∃ e', ms'[i]? = some e' ∧ e'.v = e.v ∧ e'.top = e.top) : ∀ {ds : List D} {us : List Value}, firmL N ds = true → VXs ms w Ok ds us → VXs ms' w Ok' ds us
  | _, _, _, .nil => .nil
  | _, _, hf, .cons h h' => .cons (VX.firm hm (firmL_cons hf).1 h) (VXs.firm hm (firmL_cons hf).2 h')
end
def firmB (N : Nat) : Blk → Bool
  | .cells _ ds => firmL N ds
  | .arr _ _ _ dp => dp
  | _ => true
theorem EntR.firm {base : Nat} (hm : ∀ (i : Nat) (e : Ent), i < N → ms[i]? = some e → ∃ e', ms'[i]? = some e' ∧ e'.v = e.v ∧ e'.top = e.top) {b : Blk} {e : Ent} (hf : firmB N b = true) (h : EntR base ms w Ok b e) : EntR base ms' w Ok' b e := by
  cases b with
  | gone => exact h
  | cells t ds =>
    obtain ⟨g, us, h1, h2, h3⟩ := h
    exact ⟨g, us, h1, h2, h3.firm hm hf⟩
  | fr n xs => exact h
  | cust R => exact h
  | arr t n xs dp =>
    simp only [firmB] at hf
    subst hf
    exact h
end
section
variable {P : Program} {w0 w : World} {A : Nat → Prop} {c : Code} {Q : Exit → St → Prop} {ms ms' : List Ent} {a : Act} {n : Nat} {sl : List (Nat × D)} {hp hp' : List Blk}
theorem firm_look {N : Nat} (h : sl.all (fun x => firm N x.2) = true) (t : Nat) : firm N (look sl t) = true := by
  induction sl with
  | nil => rfl
  | cons x l ih =>
    simp only [List.all_cons, Bool.and_eq_true] at h
    obtain ⟨t', d⟩ := x
    simp only [look]
    split
    · exact h.1
    · exact ih h.2
theorem Rel.reown {N : Nat} (hr : Rel w0 A ms ⟨n, sl, hp⟩ a w) (hlen : ms'.length = hp'.length) (hm : ∀ (i : Nat) (e : Ent), i < N → ms[i]? = some e → ∃ e', ms'[i]? = some e' ∧ e'.v = e.v ∧ e'.top = e.top) (hsl : sl.all (fun x => firm N x.2) = true) (hp0 : List.Perm (owned ms') (owned ms))
    (hents : ∀ (i : Nat) (b : Blk) (e : Ent), hp'[i]? = some b → ms'[i]? = some e → EntR w0.heap.size ms' w (OkB w0.heap.size A ms' w) b e) : Rel w0 A ms' ⟨n, sl, hp'⟩ a w :=
  ⟨hr.ext, hr.old, hr.size, hr.defers, hlen, hp0.nodup_iff.2 hr.nodup, fun k hk => hr.range k (hp0.mem_iff.1 hk), hents, fun t => (hr.slots t).firm hm (firm_look hsl t)⟩
theorem flP_append (a b : List (Value × Value)) : flP (a ++ b) = flP a ++ flP b := by simp [flP]
theorem flP_len : ∀ {l : List (Value × Value)} {l' : List Tr}, l.length = l'.length → (flP l).length = ((l'.map dTr).flatten).length
  | [], [], _ => rfl
  | [], _ :: _, h => by simp at h
  | _ :: _, [], h => by simp at h
  | p :: l, y :: l', h => by
    have := flP_len (l := l) (l' := l') (by simpa using h)
    simp only [List.map_cons, List.flatten_cons, List.length_append]
    rw [← this]
    simp [flP, dTr]; omega
theorem vrs_consR {w : World} {d : D} {ds : List D} {us : List Value} {bs : List Nat} (h : VRs w (d :: ds) us bs) : ∃ u us' b bs', us = u :: us' ∧ bs = b ++ bs' ∧ VR w d u b ∧ VRs w ds us' bs' := by
  cases h with
  | cons h h' => exact ⟨_, _, _, _, rfl, rfl, h, h'⟩
/-- The rows, parted at t. -/
theorem rows_part {w : World} {ps1 ps2 : List (Value × Value)} {q : Value × Value} {ts1 ts2 : List Tr} {x : Tr} {nest : List Nat} (h : VRs w ((ts1 ++ x :: ts2).map dTr).flatten (flP (ps1 ++ q :: ps2)) nest) (hl : ps1.length = ts1.length) : ∃ b1 b2 b3 b4, nest = b1 ++ (b2 ++ (b3 ++ b4)) ∧ VRs w (ts1.map dTr).flatten (flP ps1) b1 ∧ VR w (.sh 1 (ints x.pre)) q.1 b2 ∧ VR w (.sh 1 (ints x.post)) q.2 b3 ∧ VRs w (ts2.map dTr).flatten (flP ps2) b4 := by
  have e : ((ts1 ++ x :: ts2).map dTr).flatten = (ts1.map dTr).flatten ++ (.sh 1 (ints x.pre) :: .sh 1 (ints x.post) :: (ts2.map dTr).flatten) := by
    rw [List.map_append, List.map_cons, List.flatten_append, List.flatten_cons]; rfl
  have e2 : flP (ps1 ++ q :: ps2) = flP ps1 ++ (q.1 :: q.2 :: flP ps2) := by simp [flP]
  rw [e, e2] at h
  obtain ⟨u1, u2, b1, b2, h1, h2, h3, h4⟩ := vrs_split h
  have hll : u1.length = (flP ps1).length := by
    rw [h3.len]
    exact (flP_len hl).symm
  obtain ⟨rfl, rfl⟩ := List.append_inj h1.symm hll
  obtain ⟨w1, us1, c1, c2, e3, rfl, g1, g2⟩ := vrs_consR h4
  injection e3 with e3 e4; subst e3; subst e4
  obtain ⟨w2, us2, c3, c4, e3, rfl, g3, g4⟩ := vrs_consR g2
  injection e3 with e3 e4; subst e3; subst e4
  exact ⟨b1, c1, c3, c4, h2, h3, g1, g3, g4⟩
theorem rows_join {w : World} {ps1 ps2 : List (Value × Value)} {q : Value × Value} {ts1 ts2 : List Tr} {x : Tr} {b1 b2 b3 b4 : List Nat} (h1 : VRs w (ts1.map dTr).flatten (flP ps1) b1) (h2 : VR w (.sh 1 (ints x.pre)) q.1 b2) (h3 : VR w (.sh 1 (ints x.post)) q.2 b3) (h4 : VRs w (ts2.map dTr).flatten (flP ps2) b4) : VRs w ((ts1 ++ x :: ts2).map dTr).flatten (flP (ps1 ++ q :: ps2)) (b1 ++ (b2 ++ (b3 ++ b4))) := by
  have e : ((ts1 ++ x :: ts2).map dTr).flatten = (ts1.map dTr).flatten ++ (.sh 1 (ints x.pre) :: .sh 1 (ints x.post) :: (ts2.map dTr).flatten) := by
    rw [List.map_append, List.map_cons, List.flatten_append, List.flatten_cons]; rfl
  have e2 : flP (ps1 ++ q :: ps2) = flP ps1 ++ (q.1 :: q.2 :: flP ps2) := by simp [flP]
  rw [e, e2]
  exact h1.append (.cons h2 (.cons h3 h4))
/-- The two rows of one transition are taken out. -/
theorem W_takeT (i : Nat) {ps1 ps2 : List (Value × Value)} {q : Value × Value} {ts1 ts2 : List Tr} {x : Tr} (h : hp[i]? = some (.cust (RowsT (ps1 ++ q :: ps2) (ts1 ++ x :: ts2)))) (hl : ps1.length = ts1.length) (hsl : sl.all (fun x => firm hp.length x.2) = true) (hhp : hp.all (firmB hp.length) = true)
    (hK : W P w0 A c ⟨n, sl, hp.set i (.cust (RowsT (ps1 ++ ps2) (ts1 ++ ts2))) ++ [.cust (RowU q.1 x.pre), .cust (RowU q.2 x.post)]⟩ Q) : W P w0 A c ⟨n, sl, hp⟩ Q := by
  refine ⟨fun ms a w hr => ?_⟩
  have hil : i < hp.length := (List.getElem?_eq_some_iff.1 h).1
  have him : i < ms.length := by rw [hr.len]; exact hil
  have hmi : ms[i]? = some ms[i] := List.getElem?_eq_getElem him
  obtain ⟨⟨o1, o2, o3⟩, _⟩ := hr.ents i _ _ h hmi
  obtain ⟨b1, b2, b3, b4, hb, h1, h2, h3, h4⟩ := rows_part o2 hl
  obtain ⟨t2, rfl⟩ := row_bs h2
  obtain ⟨t3, rfl⟩ := row_bs h3
  have m1 : ∀ k ∈ b1 ++ b4, k ∈ ms[i].nest := fun k hk => by
    rw [hb]
    rcases List.mem_append.1 hk with h | h
    · exact List.mem_append_left _ h
    · exact List.mem_append_right _ (List.mem_append_right _ (List.mem_append_right _ h))
  have hms : ms = ms.take i ++ ms[i] :: ms.drop (i + 1) := by simp
  let e' : Ent := ⟨ms[i].v, none, b1 ++ b4⟩
  let ms' := ms.set i e' ++ [⟨undef, t2, []⟩, ⟨undef, t3, []⟩]
  have hset : ms.set i e' = ms.take i ++ e' :: ms.drop (i + 1) := by rw [List.set_eq_take_append_cons_drop, if_pos him]
  have hperm : List.Perm (owned ms') (owned ms) := by
    have a1 : owned ms = owned (ms.take i) ++ ((b1 ++ (t2.toList ++ (t3.toList ++ b4))) ++ owned (ms.drop (i + 1))) := by
      conv => lhs; rw [hms]
      simp only [owned, List.flatMap_append, List.flatMap_cons, o1, hb]; simp
    have a2 : owned ms' = owned (ms.take i) ++ ((b1 ++ b4) ++ owned (ms.drop (i + 1))) ++ (t2.toList ++ t3.toList) := by
      simp only [ms', hset, owned, List.flatMap_append, List.flatMap_cons, e']; simp
    rw [a1, a2, List.perm_iff_count]
    intro k
    simp only [List.count_append]
    omega
  have hm : ∀ (j : Nat) (e : Ent), j < hp.length → ms[j]? = some e → ∃ e', ms'[j]? = some e' ∧ e'.v = e.v ∧ e'.top = e.top := by
    intro j e hj he
    have hlt : j < ms.length := by rw [hr.len]; exact hj
    by_cases hji : j = i
    · subst hji
      rw [hmi] at he; cases he
      exact ⟨e', by simp only [ms']; rw [List.getElem?_append_left (by simpa using hlt), List.getElem?_set_self hlt], rfl, o1.symm⟩
    · exact ⟨e, by simp only [ms']; rw [List.getElem?_append_left (by simpa using hlt), List.getElem?_set_ne (Ne.symm hji)]; exact he, rfl, rfl⟩
  refine hK.run ms' a w (hr.reown (by simp [ms', hr.len]) hm hsl hperm ?_)
  intro j b e hb' he
  simp only [ms'] at he
  rcases Nat.lt_or_ge j hp.length with hlt | hge
  · have hlm : j < ms.length := by rw [hr.len]; exact hlt
    rw [List.getElem?_append_left (by simpa using hlm)] at he
    rw [List.getElem?_append_left (by simpa using hlt)] at hb'
    by_cases hji : j = i
    · subst hji
      rw [List.getElem?_set_self hlm] at he
      rw [List.getElem?_set_self hil] at hb'
      have he := Option.some.inj he
      subst he
      cases hb'
      have hR : RowsT (ps1 ++ ps2) (ts1 ++ ts2) w e'.v e'.top e'.nest := ⟨rfl, by rw [List.map_append, List.flatten_append, flP_append]; exact h1.append h4, fun k hk => o3 k (m1 k hk)⟩
      exact ⟨hR, fun w' hk => hR.keep hk⟩
    · rw [List.getElem?_set_ne (Ne.symm hji)] at he
      rw [List.getElem?_set_ne (Ne.symm hji)] at hb'
      exact (hr.ents j b e hb' he).firm hm (List.all_eq_true.1 hhp b (List.mem_of_getElem? hb'))
  · rw [List.getElem?_append_right (by simp [hr.len]; omega)] at he
    rw [List.getElem?_append_right (by simpa using hge)] at hb'
    simp only [List.length_set, hr.len] at he hb'
    match hj : j - hp.length, he, hb' with
    | 0, he, hb' =>
      cases he; cases hb'
      have hR : RowU q.1 x.pre w undef t2 [] := ⟨rfl, h2, fun k hk => o3 k (by rw [hb]; exact List.mem_append_right _ (List.mem_append_left _ hk))⟩
      exact ⟨hR, fun w' hk => hR.keep hk⟩
    | 1, he, hb' =>
      cases he; cases hb'
      have hR : RowU q.2 x.post w undef t3 [] := ⟨rfl, h3, fun k hk => o3 k (by rw [hb]; exact List.mem_append_right _ (List.mem_append_right _ (List.mem_append_left _ hk)))⟩
      exact ⟨hR, fun w' hk => hR.keep hk⟩
    | q + 2, he, hb' => simp at he
theorem Weak.then {s1 s2 s3 : St} (h : Weak w0 A s1 s2) (h' : Weak w0 A s2 s3) : Weak w0 A s1 s3 := fun ms a w hr => by
  obtain ⟨ms', hr'⟩ := h ms a w hr
  exact h' ms' a w hr'
/-- They are put back. -/
theorem Weak_putT (i : Nat) {ps1 ps2 : List (Value × Value)} {q : Value × Value} {ts1 ts2 : List Tr} {x : Tr} (h : hp[i]? = some (.cust (RowsT (ps1 ++ ps2) (ts1 ++ ts2)))) (hl : ps1.length = ts1.length) (hsl : sl.all (fun x => firm hp.length x.2) = true) (hhp : hp.all (firmB hp.length) = true) : Weak w0 A ⟨n, sl, hp ++ [.cust (RowU q.1 x.pre), .cust (RowU q.2 x.post)]⟩ ⟨n, sl, hp.set i (.cust (RowsT (ps1 ++ q :: ps2) (ts1 ++ x :: ts2)))⟩ := by
  intro ms a w hr
  have hil : i < hp.length := (List.getElem?_eq_some_iff.1 h).1
  have hlen : ms.length = hp.length + 2 := by rw [hr.len]; simp
  obtain ⟨ms0, e1, e2, rfl⟩ : ∃ ms0 e1 e2, ms = ms0 ++ [e1, e2] := by
    refine ⟨ms.take hp.length, ms[hp.length], ms[hp.length + 1], ?_⟩
    conv => lhs; rw [← List.take_append_drop hp.length ms]
    congr 1
    rw [List.drop_eq_getElem_cons (by omega), List.drop_eq_getElem_cons (by omega), List.drop_eq_nil_of_le (by omega)]
  have hl0 : ms0.length = hp.length := by simpa using hlen
  have him : i < ms0.length := by omega
  have hmi : ms0[i]? = some ms0[i] := List.getElem?_eq_getElem him
  obtain ⟨⟨o1, o2, o3⟩, _⟩ := hr.ents i _ ms0[i] (by simp only; rw [List.getElem?_append_left hil]; exact h) (by rw [List.getElem?_append_left him]; exact hmi)
  obtain ⟨⟨p1, p2, p3⟩, _⟩ := hr.ents hp.length (.cust (RowU q.1 x.pre)) e1 (by simp) (by rw [List.getElem?_append_right (by omega), hl0]; simp)
  obtain ⟨⟨r1, r2, r3⟩, _⟩ := hr.ents (hp.length + 1) (.cust (RowU q.2 x.post)) e2 (by simp) (by rw [List.getElem?_append_right (by omega), hl0]; simp)
  have hsp : ∃ b1 b4, ms0[i].nest = b1 ++ b4 ∧ VRs w (ts1.map dTr).flatten (flP ps1) b1 ∧ VRs w (ts2.map dTr).flatten (flP ps2) b4 := by
    rw [List.map_append, List.flatten_append, flP_append] at o2
    obtain ⟨u1, u2, b1, b4, h1, h2, h3, h4⟩ := vrs_split o2
    have hll : (flP ps1).length = u1.length := by rw [h3.len]; exact flP_len hl
    obtain ⟨rfl, rfl⟩ := List.append_inj h1 hll
    exact ⟨b1, b4, h2, h3, h4⟩
  obtain ⟨b1, b4, hb, h1, h4⟩ := hsp
  let e' : Ent := ⟨ms0[i].v, none, b1 ++ (e1.top.toList ++ (e2.top.toList ++ b4))⟩
  have hms : ms0 = ms0.take i ++ ms0[i] :: ms0.drop (i + 1) := by simp
  have hset : ms0.set i e' = ms0.take i ++ e' :: ms0.drop (i + 1) := by rw [List.set_eq_take_append_cons_drop, if_pos him]
  have hperm : List.Perm (owned (ms0.set i e')) (owned (ms0 ++ [e1, e2])) := by
    have a1 : owned (ms0 ++ [e1, e2]) = owned (ms0.take i) ++ ((b1 ++ b4) ++ owned (ms0.drop (i + 1))) ++ (e1.top.toList ++ e2.top.toList) := by
      conv => lhs; rw [hms]
      simp only [owned, List.flatMap_append, List.flatMap_cons, o1, hb, p1, r1]; simp
    have a2 : owned (ms0.set i e') = owned (ms0.take i) ++ ((b1 ++ (e1.top.toList ++ (e2.top.toList ++ b4))) ++ owned (ms0.drop (i + 1))) := by
      simp only [hset, owned, List.flatMap_append, List.flatMap_cons, e']; simp
    rw [a1, a2, List.perm_iff_count]
    intro k
    simp only [List.count_append]
    omega
  have hm : ∀ (j : Nat) (e : Ent), j < hp.length → (ms0 ++ [e1, e2])[j]? = some e → ∃ e'', (ms0.set i e')[j]? = some e'' ∧ e''.v = e.v ∧ e''.top = e.top := by
    intro j e hj he
    have hlt : j < ms0.length := by omega
    rw [List.getElem?_append_left hlt] at he
    by_cases hji : j = i
    · subst hji
      rw [hmi] at he; cases he
      exact ⟨e', List.getElem?_set_self hlt, rfl, o1.symm⟩
    · exact ⟨e, by rw [List.getElem?_set_ne (Ne.symm hji)]; exact he, rfl, rfl⟩
  refine ⟨ms0.set i e', hr.reown (by simp [hl0]) hm hsl hperm ?_⟩
  intro j b e hb' he
  have hlt : j < hp.length := by simpa using (List.getElem?_eq_some_iff.1 hb').1
  have hlm : j < ms0.length := by omega
  by_cases hji : j = i
  · subst hji
    rw [List.getElem?_set_self hlm] at he
    rw [List.getElem?_set_self hil] at hb'
    have he := Option.some.inj he
    subst he
    cases hb'
    have hR : RowsT (ps1 ++ q :: ps2) (ts1 ++ x :: ts2) w e'.v e'.top e'.nest := ⟨rfl, rows_join h1 p2 r2 h4, fun k hk => by
      simp only [e', List.mem_append] at hk
      rcases hk with hk | hk | hk | hk
      · exact o3 k (by rw [hb]; exact List.mem_append_left _ hk)
      · exact p3 k hk
      · exact r3 k hk
      · exact o3 k (by rw [hb]; exact List.mem_append_right _ hk)⟩
    exact ⟨hR, fun w' hk => hR.keep hk⟩
  · rw [List.getElem?_set_ne (Ne.symm hji)] at he
    rw [List.getElem?_set_ne (Ne.symm hji)] at hb'
    exact (hr.ents j b e (by simp only; rw [List.getElem?_append_left hlt]; exact hb') (by rw [List.getElem?_append_left hlm]; exact he)).firm hm (List.all_eq_true.1 hhp b (List.mem_of_getElem? hb'))
end
end Go.Proofs.Ytcbfpeplcbgpjaa
namespace Go.Proofs.Ytcbfpeplcbgpjaa
open Go.ChangeShapes Go.WideShapes Go.ChangeAt Go.RowKit

theorem flP_vals (ps : List (Value × Value)) : (ps.map dP).flatten = (flP ps).map D.lit := by
  induction ps with
  | nil => rfl
  | cons p l ih => simp only [List.map_cons, List.flatten_cons, ih]; simp [flP, dP]
theorem pairs_of {w : World} : ∀ {ts : List Tr} {us : List Value} {bs : List Nat}, VRs w (ts.map dTr).flatten us bs → ∃ ps : List (Value × Value), ps.length = ts.length ∧ us = flP ps ∧ ∀ u ∈ us, isSl u = true
  | [], _, _, h => by
    simp only [List.map_nil, List.flatten_nil] at h
    cases h
    exact ⟨[], rfl, rfl, by simp⟩
  | x :: ts, _, _, h => by
    have e : ((x :: ts).map dTr).flatten = .sh 1 (ints x.pre) :: .sh 1 (ints x.post) :: (ts.map dTr).flatten := by
      rw [List.map_cons, List.flatten_cons]; rfl
    rw [e] at h
    obtain ⟨u, us1, _, _, rfl, rfl, h1, h2⟩ := vrs_consR h
    obtain ⟨v, us2, _, _, rfl, rfl, h3, h4⟩ := vrs_consR h2
    obtain ⟨ps, e1, e2, e3⟩ := pairs_of h4
    refine ⟨(u, v) :: ps, by simp [e1], by rw [e2]; simp [flP], fun y hy => ?_⟩
    rcases List.mem_cons.1 hy with rfl | hy
    · exact h1.isSlice
    · rcases List.mem_cons.1 hy with rfl | hy
      · exact h3.isSlice
      · exact e3 y hy
theorem ints_flatU (p : List Int) : (ints p).flatten = p.map fun x => D.lit (.int .i64 x) := by
  induction p with
  | nil => rfl
  | cons x l ih => simp only [ints, List.map_cons, List.flatten_cons] at ih ⊢; rw [ih]; rfl
section
variable {P : Program} {w0 w : World} {A : Nat → Prop} {c : Code} {Q : Exit → St → Prop} {ms ms' : List Ent} {a : Act} {n : Nat} {sl : List (Nat × D)} {hp hp' : List Blk}
/-- An array of transitions is opened. -/
theorem W_shallowT (i : Nat) {T : TypeId} {ts : List Tr} (h : hp[i]? = some (.arr T 2 (ts.map dTr) true)) (hsl : sl.all (fun x => firm hp.length x.2) = true) (hhp : hp.all (firmB hp.length) = true)
    (hK : ∀ ps : List (Value × Value), ps.length = ts.length → W P w0 A c ⟨n, sl, hp.set i (.arr T 2 (ps.map dP) true) ++ [.cust (RowsT ps ts)]⟩ Q) : W P w0 A c ⟨n, sl, hp⟩ Q := by
  refine ⟨fun ms a w hr => ?_⟩
  have hil : i < hp.length := (List.getElem?_eq_some_iff.1 h).1
  have him : i < ms.length := by rw [hr.len]; exact hil
  have hmi : ms[i]? = some ms[i] := List.getElem?_eq_getElem him
  obtain ⟨us, bs, o1, o2, o3, o4, o5⟩ := hr.ents i _ _ h hmi
  rw [if_pos rfl] at o5
  obtain ⟨ps, hpl, rfl, hsu⟩ := pairs_of o3
  have hms : ms = ms.take i ++ ms[i] :: ms.drop (i + 1) := by simp
  let e' : Ent := ⟨ms[i].v, ms[i].top, []⟩
  let ms' := ms.set i e' ++ [⟨undef, none, bs⟩]
  have hset : ms.set i e' = ms.take i ++ e' :: ms.drop (i + 1) := by rw [List.set_eq_take_append_cons_drop, if_pos him]
  have hperm : List.Perm (owned ms') (owned ms) := by
    have a1 : owned ms = owned (ms.take i) ++ ((ms[i].top.toList ++ bs) ++ owned (ms.drop (i + 1))) := by
      conv => lhs; rw [hms]
      simp only [owned, List.flatMap_append, List.flatMap_cons, o5.1]
    have a2 : owned ms' = owned (ms.take i) ++ (ms[i].top.toList ++ owned (ms.drop (i + 1))) ++ bs := by
      simp only [ms', hset, owned, List.flatMap_append, List.flatMap_cons, e']; simp
    rw [a1, a2, List.perm_iff_count]
    intro k
    simp only [List.count_append]
    omega
  have hm : ∀ (j : Nat) (e : Ent), j < hp.length → ms[j]? = some e → ∃ e', ms'[j]? = some e' ∧ e'.v = e.v ∧ e'.top = e.top := by
    intro j e hj he
    have hlt : j < ms.length := by rw [hr.len]; exact hj
    by_cases hji : j = i
    · subst hji
      rw [hmi] at he; cases he
      exact ⟨e', by simp only [ms']; rw [List.getElem?_append_left (by simpa using hlt), List.getElem?_set_self hlt], rfl, rfl⟩
    · exact ⟨e, by simp only [ms']; rw [List.getElem?_append_left (by simpa using hlt), List.getElem?_set_ne (Ne.symm hji)]; exact he, rfl, rfl⟩
  refine (hK ps hpl).run ms' a w (hr.reown (by simp [ms', hr.len]) hm hsl hperm ?_)
  intro j b e hb' he
  simp only [ms'] at he
  rcases Nat.lt_or_ge j hp.length with hlt | hge
  · have hlm : j < ms.length := by rw [hr.len]; exact hlt
    rw [List.getElem?_append_left (by simpa using hlm)] at he
    rw [List.getElem?_append_left (by simpa using hlt)] at hb'
    by_cases hji : j = i
    · subst hji
      rw [List.getElem?_set_self hlm] at he
      rw [List.getElem?_set_self hil] at hb'
      have he := Option.some.inj he
      subst he
      cases hb'
      refine ⟨flP ps, [], ?_, ?_, ?_, o4, by rw [if_pos rfl]; exact ⟨rfl, by simp⟩⟩
      · have : (ps.map dP).length = (ts.map dTr).length := by simp [hpl]
        rw [this]; exact o1
      · intro r hr'
        obtain ⟨q, _, rfl⟩ := List.mem_map.1 hr'
        rfl
      · rw [flP_vals]; exact vals_vrs hsu
    · rw [List.getElem?_set_ne (Ne.symm hji)] at he
      rw [List.getElem?_set_ne (Ne.symm hji)] at hb'
      exact (hr.ents j b e hb' he).firm hm (List.all_eq_true.1 hhp b (List.mem_of_getElem? hb'))
  · rw [List.getElem?_append_right (by simp [hr.len]; omega)] at he
    rw [List.getElem?_append_right (by simpa using hge)] at hb'
    simp only [List.length_set, hr.len] at he hb'
    match hj : j - hp.length, he, hb' with
    | 0, he, hb' =>
      cases he; cases hb'
      have hR : RowsT ps ts w undef none bs := ⟨rfl, o3, o5.2⟩
      exact ⟨hR, fun w' hk => hR.keep hk⟩
    | q + 1, he, hb' => simp at he
/-- It is shut. -/
theorem W_deepT (i : Nat) {T : TypeId} {ts : List Tr} {ps : List (Value × Value)} (h : hp[i]? = some (.arr T 2 (ps.map dP) true)) (hpl : ps.length = ts.length) (hsl : sl.all (fun x => firm hp.length x.2) = true) (hhp : hp.all (firmB hp.length) = true)
    (hK : W P w0 A c ⟨n, sl, hp.set i (.arr T 2 (ts.map dTr) true)⟩ Q) : W P w0 A c ⟨n, sl, hp ++ [.cust (RowsT ps ts)]⟩ Q := by
  refine ⟨fun ms a w hr => ?_⟩
  have hil : i < hp.length := (List.getElem?_eq_some_iff.1 h).1
  have hlen : ms.length = hp.length + 1 := by rw [hr.len]; simp
  obtain ⟨ms0, e1, rfl⟩ : ∃ ms0 e1, ms = ms0 ++ [e1] := by
    refine ⟨ms.take hp.length, ms[hp.length], ?_⟩
    conv => lhs; rw [← List.take_append_drop hp.length ms]
    congr 1
    rw [List.drop_eq_getElem_cons (by omega), List.drop_eq_nil_of_le (by omega)]
  have hl0 : ms0.length = hp.length := by simpa using hlen
  have him : i < ms0.length := by omega
  have hmi : ms0[i]? = some ms0[i] := List.getElem?_eq_getElem him
  obtain ⟨us, bs, o1, o2, o3, o4, o5⟩ := hr.ents i _ ms0[i] (by simp only; rw [List.getElem?_append_left hil]; exact h) (by rw [List.getElem?_append_left him]; exact hmi)
  rw [if_pos rfl] at o5
  obtain ⟨⟨p1, p2, p3⟩, _⟩ := hr.ents hp.length (.cust (RowsT ps ts)) e1 (by simp) (by rw [List.getElem?_append_right (by omega), hl0]; simp)
  rw [flP_vals] at o3
  have hus := vals_inv o3
  subst hus
  have hbs : bs = [] := VRs.flat (by intro d hd; obtain ⟨u, _, rfl⟩ := List.mem_map.1 hd; rfl) o3
  subst hbs
  let e' : Ent := ⟨ms0[i].v, ms0[i].top, e1.nest⟩
  have hms : ms0 = ms0.take i ++ ms0[i] :: ms0.drop (i + 1) := by simp
  have hset : ms0.set i e' = ms0.take i ++ e' :: ms0.drop (i + 1) := by rw [List.set_eq_take_append_cons_drop, if_pos him]
  have hperm : List.Perm (owned (ms0.set i e')) (owned (ms0 ++ [e1])) := by
    have a1 : owned (ms0 ++ [e1]) = owned (ms0.take i) ++ (ms0[i].top.toList ++ owned (ms0.drop (i + 1))) ++ e1.nest := by
      conv => lhs; rw [hms]
      simp only [owned, List.flatMap_append, List.flatMap_cons, p1, o5.1]; simp
    have a2 : owned (ms0.set i e') = owned (ms0.take i) ++ ((ms0[i].top.toList ++ e1.nest) ++ owned (ms0.drop (i + 1))) := by
      simp only [hset, owned, List.flatMap_append, List.flatMap_cons, e']
    rw [a1, a2, List.perm_iff_count]
    intro k
    simp only [List.count_append]
    omega
  have hm : ∀ (j : Nat) (e : Ent), j < hp.length → (ms0 ++ [e1])[j]? = some e → ∃ e'', (ms0.set i e')[j]? = some e'' ∧ e''.v = e.v ∧ e''.top = e.top := by
    intro j e hj he
    have hlt : j < ms0.length := by omega
    rw [List.getElem?_append_left hlt] at he
    by_cases hji : j = i
    · subst hji
      rw [hmi] at he; cases he
      exact ⟨e', List.getElem?_set_self hlt, rfl, rfl⟩
    · exact ⟨e, by rw [List.getElem?_set_ne (Ne.symm hji)]; exact he, rfl, rfl⟩
  refine hK.run (ms0.set i e') a w (hr.reown (by simp [hl0]) hm hsl hperm ?_)
  intro j b e hb' he
  have hlt : j < hp.length := by simpa using (List.getElem?_eq_some_iff.1 hb').1
  have hlm : j < ms0.length := by omega
  by_cases hji : j = i
  · subst hji
    rw [List.getElem?_set_self hlm] at he
    rw [List.getElem?_set_self hil] at hb'
    have he := Option.some.inj he
    subst he
    cases hb'
    refine ⟨flP ps, e1.nest, ?_, ?_, p2, o4, by rw [if_pos rfl]; exact ⟨rfl, p3⟩⟩
    · have : (ts.map dTr).length = (ps.map dP).length := by simp [hpl]
      rw [this]; exact o1
    · intro r hr'
      obtain ⟨q, _, rfl⟩ := List.mem_map.1 hr'
      rfl
  · rw [List.getElem?_set_ne (Ne.symm hji)] at he
    rw [List.getElem?_set_ne (Ne.symm hji)] at hb'
    exact (hr.ents j b e (by simp only; rw [List.getElem?_append_left hlt]; exact hb') (by rw [List.getElem?_append_left hlm]; exact he)).firm hm (List.all_eq_true.1 hhp b (List.mem_of_getElem? hb'))
/-- What is known of a row's slice. -/
theorem row_inv {u : Value} {p : List Int} {bs : List Nat} (h : VR w (.sh 1 (ints p)) u bs) : ∃ a cap, u = .slice a p.length cap ∧ p.length ≤ cap ∧ cap ≤ 9223372036854775807 ∧ (0 < p.length → ∃ g o, a = some ⟨g, o, none⟩ ∧ bs = [g] ∧ g < w.heap.size ∧ ∀ j, j < p.length → w.cell? ⟨g, o + j, none⟩ = some (.int .i64 (nth p j)) ∧ litOk (.int .i64 (nth p j))) := by
  have hbs := row_bs h
  generalize hx : D.sh 1 (ints p) = d at h
  cases h with
  | lit _ => cases hx
  | nil => cases hx
  | tag _ => cases hx
  | shnil h1 h2 =>
    injection hx with _ e
    have hp : p = [] := by
      cases p with
      | nil => rfl
      | cons _ _ => simp [ints] at e
    subst hp
    exact ⟨_, _, rfl, by simp, h1, by simp⟩
  | @sh _ _ g o cap _ _ h1 h2 h3 h4 h5 h6 =>
    injection hx with _ e
    subst e
    refine ⟨some ⟨g, o, none⟩, cap, by simp [ints], by simpa [ints] using h2, h3, fun _ => ⟨g, o, rfl, ?_, h4, fun j hj => ?_⟩⟩
    · obtain ⟨o, ho⟩ := hbs
      cases o with
      | none => simp at ho
      | some g => simp at ho; simp [ho]
    · have hd : (ints p).flatten[j]? = some (.lit (.int .i64 (nth p j))) := by
        have := ints_flatU p
        rw [this, List.getElem?_map, List.getElem?_eq_getElem hj, nth_get hj]; rfl
      obtain ⟨v, b', g1, g2, _⟩ := h5.get hd
      have hv : v = .int .i64 (nth p j) ∧ litOk v := by
        cases g2 with
        | lit h => exact ⟨rfl, h⟩
      obtain ⟨rfl, hv⟩ := hv
      have hlen := h5.len
      refine ⟨?_, hv⟩
      rw [h6 j (List.getElem?_eq_some_iff.1 g1).1]; exact g1
theorem W_factU (j : Nat) {u : Value} {p : List Int} (h : hp[j]? = some (.cust (RowU u p))) (hK : ∀ a cap, u = .slice a p.length cap → (0 < p.length → ∃ g o, a = some ⟨g, o, none⟩) → W P w0 A c ⟨n, sl, hp⟩ Q) : W P w0 A c ⟨n, sl, hp⟩ Q := by
  refine ⟨fun ms a w hr => ?_⟩
  have hjl : j < ms.length := by rw [hr.len]; exact (List.getElem?_eq_some_iff.1 h).1
  obtain ⟨⟨_, h2, _⟩, _⟩ := hr.ents j _ _ h (List.getElem?_eq_getElem hjl)
  obtain ⟨a', cap, e1, _, _, e2⟩ := row_inv h2
  exact (hK a' cap e1 (fun h => by obtain ⟨g, o, e, _⟩ := e2 h; exact ⟨g, o, e⟩)).run ms a w hr
end
section
variable {P : Program} {tab : Nat → Option TI} {w0 : World} {A : Nat → Prop} {n : Nat} {sl : List (Nat × D)} {hp : List Blk} {ops : Array Oper} {rest : List Oper} {K : St → Prop} {dst : Tmp} {ty : TypeId} {pos : String} {after : Array Edge}
/-- The length of a slice known as a value. -/
theorem R_lenLit (hT : TabOk P tab) {x : Operand} {t T' : TypeId} {av : Option Addr} {m cap : Nat} {agg : Bool} {size bytes : Nat} {zero : List Value} (hx : evD (look sl) x = .lit (.slice av m cap)) (ht : tab t = some ⟨.sl T', agg, size, bytes, zero⟩) (hm : m ≤ 9223372036854775807) (hd : Nat.blt dst n = true)
    (hK : WO P w0 A ops rest ⟨n, (dst, .lit (.int .i64 m)) :: sl, hp⟩ K) : WO P w0 A ops (⟨some dst, .call ⟨.builtin .len, #[x], #[t]⟩, ty, pos, after, none⟩ :: rest) ⟨n, sl, hp⟩ K := by
  refine ⟨fun ms a w hr Q hq => ?_⟩
  refine wpList_plain rfl fun Kn hKn => ?_
  obtain ⟨h3, _⟩ := (hr.ev_at hx).lit_inv
  obtain ⟨inf, td, z, q1, q2, q3, q4, q5, q6, _⟩ := hT.get ht
  have htd := TK.sl_inv q4
  subst htd
  have hrun : (execOp a.eval ⟨some dst, .call ⟨.builtin .len, #[x], #[t]⟩, ty, pos, after, none⟩).run P w = .ok (.value (.int .i64 m)) w := by
    simp [execOp, resolve, invoke, builtin, Builtin.len_, Sem.run_bind, Sem.run, pure, Result.andThen, run_underlying q2, h3, goInt]
  exact upon_value hrun (hKn _ _ (hK.run ms _ w (Rel.put (t := some dst) hr (int_vx (litOk_i64.2 ⟨by omega, by omega⟩)) (dstOk_all (s := ⟨n, _, _⟩) (t := some dst) hd)) Q hq))
/-- The address of an element of a slice known as a value. -/
theorem R_idxLit (hT : TabOk P tab) {x y : Operand} {t T : TypeId} {g o len cap m : Nat} {j : Int} {agg : Bool} {size bytes : Nat} {zero : List Value} {k' : TK} {agg' : Bool} {bytes' : Nat} {zero' : List Value} (hx : evD (look sl) x = .lit (.slice (some ⟨g, o, none⟩) len cap)) (hy : evD (look sl) y = .lit (.int .i64 j)) (ht : tab t = some ⟨.sl T, agg, size, bytes, zero⟩) (hT' : tab T = some ⟨k', agg', m, bytes', zero'⟩)
    (hj : 0 ≤ j ∧ j < (len : Int)) (hd : Nat.blt dst n = true) (hK : WO P w0 A ops rest ⟨n, (dst, .val (.pointer (some ⟨g, o + j.toNat * m, none⟩))) :: sl, hp⟩ K) : WO P w0 A ops (⟨some dst, .indexAddr t x y, ty, pos, after, none⟩ :: rest) ⟨n, sl, hp⟩ K := by
  refine ⟨fun ms a w hr Q hq => ?_⟩
  refine wpList_plain rfl fun Kn hKn => ?_
  obtain ⟨inf, td, z, q1, q2, q3, q4, q5, q6, _⟩ := hT.get ht
  obtain ⟨inf', td', z', g1, g2, g3, g4, g5, g6, _⟩ := hT.get hT'
  have htd := TK.sl_inv q4
  subst htd
  obtain ⟨e1, _⟩ := (hr.ev_at hx).lit_inv
  obtain ⟨e2, _⟩ := (hr.ev_at hy).lit_inv
  have hrun : (execOp a.eval ⟨some dst, .indexAddr t x y, ty, pos, after, none⟩).run P w = .ok (.value (.pointer (some ⟨g, o + j.toNat * m, none⟩))) w := by
    simp only [execOp, Instr.indexAt, e1, e2, asIntOf, Sem.run_bind, Sem.run, pure, Result.andThen, run_underlying q2]
    simp only [hj.1, hj.2, and_self, if_true, run_sizeOf g1, g6]
    simp only [Addr.add]
    by_cases hb : j.toNat * m = 0 <;> simp [hb, run_sizeOf g1, g6]
  exact upon_value hrun (hKn _ _ (hK.run ms _ w (Rel.put (t := some dst) hr .val (dstOk_all (s := ⟨n, _, _⟩) (t := some dst) hd)) Q hq))
theorem val_ev {ms : List Ent} {a : Act} {w : World} {Ok : Nat → Prop} {v u : Value} (h : VX ms w Ok (.val v) u) : u = v := by
  cases h with
  | rd h _ => cases h
  | val => rfl
/-- A number of a row that is out is read. -/
theorem R_loadU (hT : TabOk P tab) (k : Nat) {x : Operand} {tl : TypeId} {g o len cap off j : Nat} {p : List Int} {kk : TK} {bytes : Nat} {zero : List Value} (hx : evD (look sl) x = .val (.pointer (some ⟨g, off, none⟩))) (hb : hp[k]? = some (.cust (RowU (.slice (some ⟨g, o, none⟩) len cap) p))) (ht : tab tl = some ⟨kk, false, 1, bytes, zero⟩) (ho : off = o + j) (hj : j < p.length) (hd : Nat.blt dst n = true)
    (hK : WO P w0 A ops rest ⟨n, (dst, .lit (.int .i64 (nth p j))) :: sl, hp⟩ K) : WO P w0 A ops (⟨some dst, .load tl x, ty, pos, after, none⟩ :: rest) ⟨n, sl, hp⟩ K := by
  refine ⟨fun ms a w hr Q hq => ?_⟩
  refine wpList_plain rfl fun Kn hKn => ?_
  obtain ⟨inf, td, z, h1, h2, h3, h4, h5, h6, _⟩ := hT.get ht
  have hkl : k < ms.length := by rw [hr.len]; exact (List.getElem?_eq_some_iff.1 hb).1
  obtain ⟨⟨_, r2, _⟩, _⟩ := hr.ents k _ _ hb (List.getElem?_eq_getElem hkl)
  obtain ⟨a', cap', e1, _, _, e2⟩ := row_inv r2
  obtain ⟨g', o', rfl, _, _, hc⟩ := e2 (by omega)
  injection e1 with e1 _ _
  injection e1 with e1
  injection e1 with e1 e3 _
  subst e1; subst e3
  obtain ⟨hc1, hc2⟩ := hc j hj
  have hgx := val_ev (a := a) (hr.ev_at hx)
  have hag : aggDesc td = false := h5.symm
  have hld : (loadVar tl ⟨g, off, none⟩).run P w = .ok (.int .i64 (nth p j)) w := by
    unfold loadVar
    simp only [Sem.run_bind, run_isAgg h2, Result.andThen, hag]
    simp only [Bool.false_eq_true, if_false, Go.load, Sem.run, ho, hc1]
  have hld2 : (Instr.loadAt tl (.pointer (some ⟨g, off, none⟩))).run P w = .ok (.int .i64 (nth p j)) w := by
    simp only [Instr.loadAt, Instr.sureAddr, Sem.run_bind, Sem.run, Result.andThen, pure]; exact hld
  have hrun : (execOp a.eval ⟨some dst, .load tl x, ty, pos, after, none⟩).run P w = .ok (.value (.int .i64 (nth p j))) w := by
    simp only [execOp, hgx, Sem.run_bind, hld2, Result.andThen]; rfl
  exact upon_value hrun (hKn _ _ (hK.run ms _ w (Rel.put (t := some dst) hr (VX.of_lit hc2) (dstOk_all (s := ⟨n, _, _⟩) (t := some dst) hd)) Q hq))
/-- A number of a row that is out is written. -/
theorem R_storeU (hT : TabOk P tab) (k : Nat) {x y : Operand} {tl : TypeId} {g o len cap off j : Nat} {z : Int} {p : List Int} {kk : TK} {bytes : Nat} {zero : List Value} {dst : Option Tmp} (hx : evD (look sl) x = .val (.pointer (some ⟨g, off, none⟩))) (hy : evD (look sl) y = .lit (.int .i64 z)) (hb : hp[k]? = some (.cust (RowU (.slice (some ⟨g, o, none⟩) len cap) p))) (ht : tab tl = some ⟨kk, false, 1, bytes, zero⟩) (ho : off = o + j) (hj : j < p.length) (hd : dstOk ⟨n, sl, hp⟩ dst = true)
    (hK : WO P w0 A ops rest (St.put ⟨n, sl, hp.set k (.cust (RowU (.slice (some ⟨g, o, none⟩) len cap) (p.set j z)))⟩ dst (.tup [])) K) : WO P w0 A ops (⟨dst, .store tl x y, ty, pos, after, none⟩ :: rest) ⟨n, sl, hp⟩ K := by
  refine ⟨fun ms a w hr Q hq => ?_⟩
  refine wpList_plain rfl fun Kn hKn => ?_
  obtain ⟨inf, td, z', q1, q2, q3, q4, q5, q6, _⟩ := hT.get ht
  have hkl : k < ms.length := by rw [hr.len]; exact (List.getElem?_eq_some_iff.1 hb).1
  have hi : ms[k]? = some ms[k] := List.getElem?_eq_getElem hkl
  obtain ⟨⟨r1, r2, r3⟩, _⟩ := hr.ents k _ _ hb hi
  obtain ⟨a', cap', e1, el1, el2, e2⟩ := row_inv r2
  obtain ⟨g', o', rfl, hbs, _, hc⟩ := e2 (by omega)
  injection e1 with e1 e4 e5
  injection e1 with e1
  injection e1 with e1 e3 _
  subst e1; subst e3; subst e4; subst e5
  have htop : ms[k].top = some g := by
    cases h : ms[k].top with
    | none => rw [h] at hbs; simp at hbs
    | some t => rw [h] at hbs; simp at hbs; rw [hbs]
  obtain ⟨cur, et, hh1⟩ := r3 g (by rw [htop]; simp)
  have hsz : ∀ i, i < p.length → o + i < cur.size := by
    intro i hi'
    have := (hc i hi').1
    unfold World.cell? at this
    simp only [hh1] at this
    rcases Nat.lt_or_ge (o + i) cur.size with h | h
    · exact h
    · simp [Array.getElem?_eq_none h] at this
  have hgx := val_ev (a := a) (hr.ev_at hx)
  obtain ⟨hgy, hzl⟩ := (hr.ev_at hy).lit_inv
  have hst := run_storeCells_at P g off et [Value.int .i64 z] 0 cur w hh1 (by have := hsz j hj; simp; omega) (by simp [Value.oneCell'])
  have hlo : off < cur.toList.length := by have := hsz j hj; simp; omega
  have hput : (cur.toList.take (off + 0) ++ [Value.int .i64 z] ++ cur.toList.drop (off + 0 + [Value.int .i64 z].length)) = cur.toList.set off (.int .i64 z) := by
    simp only [Nat.add_zero, List.length_cons, List.length_nil, Nat.zero_add]
    rw [List.set_eq_take_append_cons_drop, if_pos hlo]; simp
  rw [hput] at hst
  have hrun : (execOp a.eval ⟨dst, .store tl x y, ty, pos, after, none⟩).run P w = .ok .skip (w.setRow g (cur.toList.set off (.int .i64 z)).toArray) := by
    simp only [execOp, hgx, Instr.storeAt, Instr.sureAddr, storeVar, Sem.run_bind, Sem.run, Result.andThen, pure, run_sizeOf q1, hgy, q6, Value.cells, ne_eq]
    simp only [List.size_toArray, List.length_cons, List.length_nil, Nat.zero_add, not_true_eq_false, if_false]
    simp only [hst]
  have hg0 := (hr.range g (ent_owned hi (by rw [htop]; simp))).1
  have hheap := setRow_heap w g cur (cur.toList.set off (.int .i64 z)).toArray et _ hh1
  have hvr : VR (w.setRow g (cur.toList.set off (.int .i64 z)).toArray) (.sh 1 (ints (p.set j z))) (.slice (some ⟨g, o, none⟩) p.length cap) [g] := by
    have hl : p.length = (ints (p.set j z)).length := by simp [ints]
    rw [hl]
    have hvs : VRs (w.setRow g (cur.toList.set off (.int .i64 z)).toArray) (ints (p.set j z)).flatten ((p.set j z).map (Value.int .i64)) [] := by
      have : ∀ l : List Int, (∀ y ∈ l, litOk (.int .i64 y)) → VRs (w.setRow g (cur.toList.set off (.int .i64 z)).toArray) (ints l).flatten (l.map (Value.int .i64)) [] := by
        intro l
        induction l with
        | nil => intro _; exact .nil
        | cons y l ih =>
          intro h
          exact VRs.cons (bs := []) (.lit (h y (by simp))) (ih fun q hq => h q (List.mem_cons_of_mem _ hq))
      refine this _ fun y hy => ?_
      rcases List.mem_or_eq_of_mem_set hy with hy | rfl
      · obtain ⟨i, hi', rfl⟩ := List.getElem_of_mem hy
        have := (hc i hi').2
        rwa [nth_get hi'] at this
      · exact hzl
    refine .sh (fun r hr' => ?_) (by simpa [ints] using el1) el2 ?_ hvs fun i hi' => ?_
    · simp only [ints, List.mem_map] at hr'
      obtain ⟨_, _, rfl⟩ := hr'; rfl
    · simp [World.setRow]; exact (Array.getElem?_eq_some_iff.1 hh1).1
    · simp only [List.length_map, List.length_set] at hi'
      have hci := (hc i hi').1
      unfold World.cell? at hci ⊢
      simp only [hh1] at hci
      simp only [hheap]
      rw [List.getElem?_toArray, List.getElem?_set, List.getElem?_map, List.getElem?_set]
      subst ho
      by_cases hij : j = i
      · subst hij
        have : o + j < cur.toList.length := hlo
        simp [hj]; simpa using this
      · have h1 : ¬ (o + j = o + i) := by omega
        rw [nth_get hi'] at hci
        rw [if_neg h1, if_neg hij, List.getElem?_eq_getElem hi']
        simpa using hci
  have hrel := hr.change (i := k) (g := g) (b' := .cust (RowU (.slice (some ⟨g, o, none⟩) p.length cap) (p.set j z))) (w' := w.setRow g (cur.toList.set off (.int .i64 z)).toArray) hi htop (fun k hk => setRow_other w g k _ hk) (by simp [World.setRow]) (Ext_setRow _ hg0)
    (fun hk hn => by
      have hM : RowU (.slice (some ⟨g, o, none⟩) p.length cap) (p.set j z) (w.setRow g (cur.toList.set off (.int .i64 z)).toArray) ms[k].v ms[k].top ms[k].nest := ⟨r1, by rw [hbs]; exact hvr, fun q hq => by
        rw [hbs, List.mem_singleton] at hq
        subst hq
        exact ⟨_, _, hheap⟩⟩
      exact ⟨hM, fun w2 h2 => hM.keep h2⟩)
  exact upon_skip hrun (hKn _ _ (hK.run _ _ _ (Rel.put hrel (.tup (us := []) .nil) (dstOk_all hd)) Q hq))
end
end Go.Proofs.Ytcbfpeplcbgpjaa
