/- Marks as plain data: from the contracts of mark and held over flat slices to the engine's. No condition. -/
import Derived.Test.YtcpjhpjlcgcigaaGreatDoorMarkS
import Derived.Test.YtcpjhpjlcgcigaaGreatDoorAbsV
import Derived.Test.YtcpjhpjlcgcigaaGreatDoorDs
set_option linter.unusedSimpArgs false
set_option linter.unusedVariables false
namespace Go.Proofs.YtcpjhpjlcgcigaaGreatDoor
open Go.ChangeShapes Go.WideShapes Go.ChangeAt Go.RowKit

theorem vrs_lits {w : World} : ∀ {vs : List Value}, (∀ v ∈ vs, litOk v) → VRs w (vs.map D.lit) vs []
  | [], _ => .nil
  | v :: vs, h => VRs.cons (bs := []) (.lit (h v (by simp))) (vrs_lits fun u hu => h u (List.mem_cons_of_mem _ hu))

def mrow (m : Nat) (fv : Nat → Int → Value) (k : Int) : List Value := (List.range m).map fun i => fv i (k + (i : Int))
def mvals (m : Nat) (fv : Nat → Int → Value) : Nat → Int → List Value
  | 0, _ => []
  | n + 1, k => mrow m fv k ++ mvals m fv n (k + (m : Int))
def mrows (m : Nat) (fv : Nat → Int → Value) : Nat → Int → List (List D)
  | 0, _ => []
  | n + 1, k => (mrow m fv k).map D.lit :: mrows m fv n (k + (m : Int))
theorem mrow_len {m : Nat} {fv : Nat → Int → Value} {k : Int} : (mrow m fv k).length = m := by simp [mrow]
theorem mrows_flat {m : Nat} {fv : Nat → Int → Value} : ∀ {n : Nat} {k : Int}, (mrows m fv n k).flatten = (mvals m fv n k).map D.lit
  | 0, _ => rfl
  | n + 1, k => by simp [mrows, mvals, mrows_flat]
theorem mrows_len {m : Nat} {fv : Nat → Int → Value} : ∀ {n : Nat} {k : Int}, (mrows m fv n k).length = n
  | 0, _ => rfl
  | n + 1, k => by simp [mrows, mrows_len]
theorem mrows_row {m : Nat} {fv : Nat → Int → Value} : ∀ {n : Nat} {k : Int}, ∀ r ∈ mrows m fv n k, r.length = m
  | 0, _, _, h => by simp [mrows] at h
  | n + 1, k, r, h => by
    simp only [mrows, List.mem_cons] at h
    rcases h with rfl | h
    · simp [mrow]
    · exact mrows_row r h
theorem mvals_len {m : Nat} {fv : Nat → Int → Value} : ∀ {n : Nat} {k : Int}, (mvals m fv n k).length = n * m
  | 0, _ => by simp [mvals]
  | n + 1, k => by simp [mvals, mvals_len, mrow_len, Nat.add_mul]; omega
theorem mvals_get {m : Nat} {fv : Nat → Int → Value} : ∀ {n : Nat} {k : Int} {j i : Nat}, j < n → i < m → (mvals m fv n k)[j * m + i]? = some (fv i (k + ((j * m + i : Nat) : Int)))
  | 0, _, _, _, h, _ => by omega
  | n + 1, k, 0, i, _, hi => by
    rw [mvals, Nat.zero_mul, Nat.zero_add, List.getElem?_append_left (by rw [mrow_len]; exact hi)]
    simp [mrow, hi]
  | n + 1, k, j + 1, i, hj, hi => by
    have e : (j + 1) * m + i = m + (j * m + i) := by rw [Nat.add_mul]; omega
    rw [mvals, e, List.getElem?_append_right (by rw [mrow_len]; omega), mrow_len, Nat.add_sub_cancel_left, mvals_get (by omega) hi]
    congr 2; push_cast; omega
theorem mvals_all {m : Nat} {fv : Nat → Int → Value} {p : Value → Prop} : ∀ {n : Nat} {k : Int}, (∀ (i : Nat) (q : Int), i < m → k ≤ q → q < k + ((n * m : Nat) : Int) → p (fv i q)) → ∀ v ∈ mvals m fv n k, p v
  | 0, _, _, v, h => by simp [mvals] at h
  | n + 1, k, hp, v, h => by
    have e : (n + 1) * m = n * m + m := by rw [Nat.add_mul]; omega
    rw [e] at hp
    simp only [mvals, List.mem_append, mrow, List.mem_map, List.mem_range] at h
    rcases h with ⟨i, hi, rfl⟩ | h
    · exact hp i _ hi (by omega) (by push_cast; omega)
    · exact mvals_all (fun i q hi h1 h2 => hp i q hi (by omega) (by push_cast at h2 ⊢; omega)) v h

section
variable {P : Program} {α : Type} [Inhabited α] {T : Ty α} {f : α → List D} {fid : FuncId} {m : Nat} {fv : Nat → Int → Value}
theorem mfn_flat (hbr : Br T f) (hm : T.n = m) (hfl : ∀ x, ∀ d ∈ f x, isLit d = true) {l : List α} {k : Int} (hp : ∀ args w, (callFunc fid args).run P w = .ok (.enter fid args) w) (hlit : ∀ v ∈ mvals m fv l.length k, litOk v) (hsm : litOk (.int .i64 (k + ((l.length * m : Nat) : Int))))
    (hc : ∀ (w : World) (a : Option Addr) (c : Nat) (bs : List Nat), (tSl T).rep w l bs [.slice a l.length c] → (∀ k ∈ bs, Un w k) → Calls P fid #[.slice a l.length c, .int .i64 k] w fun e w' => e = .returned (.int .i64 (k + ((l.length * m : Nat) : Int))) ∧ MFlat m fv w' a l.length k ∧ Turn bs w w') :
    MFn P fid false [.sh m (l.map f)] k (k + ((l.length * m : Nat) : Int)) (some [.sh m (mrows m fv l.length k)]) := by
  subst hm
  refine ⟨hp, hsm, fun w us bs hv hnd hun => ?_⟩
  have hrep := (br_sl hbr).to (x := l) hv
  obtain ⟨u, rfl, hu⟩ := vrs_one hv
  have hone : ∀ {w' : World} {d : D}, VR w' d u bs → VRs w' [d] [u] bs := fun h => by simpa using VRs.cons h .nil
  generalize hxs : l.map f = xs at hu
  cases hu with
  | shnil h1 h2 =>
    have hl : l = [] := by simpa using hxs
    subst hl
    refine (hc w _ _ [] hrep hun).mono ?_
    rintro e w' ⟨rfl, hf, ht⟩
    refine ⟨rfl, ht, fun l' hl' => ?_⟩
    cases hl'
    exact hone (.shnil h1 h2)
  | sh h1 h2 h3 h4 h5 h6 =>
    rename_i b o cap us bs
    subst hxs
    have hbs : bs = [] := VRs.flat (fun d hd => by
      obtain ⟨r, hr, hd⟩ := List.mem_flatten.1 hd
      obtain ⟨x, _, rfl⟩ := List.mem_map.1 hr
      exact hfl x d hd) h5
    subst hbs
    simp only [List.length_map] at hrep h2 hone ⊢
    refine (hc w _ _ [b] hrep hun).mono ?_
    rintro e w' ⟨rfl, hf, ht⟩
    refine ⟨rfl, ht, fun l' hl' => ?_⟩
    cases hl'
    refine hone ?_
    have := VR.sh (w := w') (n := T.n) (xs := mrows T.n fv l.length k) (b := b) (o := o) (cap := cap) (us := mvals T.n fv l.length k) (bs := []) mrows_row (by rw [mrows_len]; exact h2) h3 (Nat.lt_of_lt_of_le h4 ht.size) (by rw [mrows_flat]; exact vrs_lits hlit) (fun j hj => by
      rw [mvals_len] at hj
      have hT : 0 < T.n := by
        rcases Nat.eq_zero_or_pos T.n with h | h
        · rw [h] at hj; simp at hj
        · exact h
      have hi : j / T.n < l.length := Nat.div_lt_of_lt_mul (by rw [Nat.mul_comm]; exact hj)
      have hr : j % T.n < T.n := Nat.mod_lt _ hT
      have ej : j / T.n * T.n + j % T.n = j := by rw [Nat.mul_comm, Nat.div_add_mod]
      have hg := mvals_get (fv := fv) (k := k) hi hr
      rw [ej] at hg
      rw [hg]
      rcases hf with hf | ⟨b', o', ha, _, hcell⟩
      · exact absurd hi (by rw [hf]; exact Nat.not_lt_zero _)
      · cases ha
        have := hcell _ hi _ hr
        rwa [Nat.add_assoc, ej] at this)
    rw [mrows_len] at this
    exact this
theorem held_flat {n : Nat} {k : Int} (hp : ∀ args w, (callFunc fid args).run P w = .ok (.enter fid args) w) (hl : litOk (.int .i64 (k + ((n * m : Nat) : Int))))
    (hc : ∀ (w : World) (a : Option Addr) (c : Nat), MFlat m fv w a n k → Calls P fid #[.slice a n c, .int .i64 k] w fun e w' => e = .returned (.int .i64 (k + ((n * m : Nat) : Int))) ∧ Ext w w') : Fn P fid [.sh m (mrows m fv n k), .lit (.int .i64 k)] (.lit (.int .i64 (k + ((n * m : Nat) : Int)))) [] := by
  refine Fn.of_lit hl hp fun w us hv => ?_
  obtain ⟨u, us', rfl, h1, h2⟩ := vxs_cons hv
  obtain ⟨u2, rfl, h3⟩ := vxs_one h2
  obtain ⟨rfl, _⟩ := h3.lit_inv
  obtain ⟨bs, hu, hok⟩ := h1.sh_inv
  clear hok
  generalize hxs : mrows m fv n k = xs at hu
  cases hu with
  | shnil q1 q2 =>
    have hn : n = 0 := by rw [← mrows_len (m := m) (fv := fv) (n := n) (k := k), hxs]; rfl
    subst hn
    exact hc w _ _ (Or.inl rfl)
  | sh q1 q2 q3 q4 q5 q6 =>
    rename_i b o cap us bs
    subst hxs
    rw [mrows_len]
    refine hc w _ _ ?_
    rcases Nat.eq_zero_or_pos n with h | h
    · exact Or.inl h
    · refine Or.inr ⟨b, o, rfl, q4, fun j hj i hi => ?_⟩
      rw [mrows_flat] at q5
      have hus : us = mvals m fv n k := by
        have key : ∀ {vs us : List Value} {bs : List Nat}, VRs w (vs.map D.lit) us bs → us = vs := by
          intro vs
          induction vs with
          | nil => intro us bs h; cases h; rfl
          | cons v vs ih =>
            intro us bs h
            cases h with
            | cons h1 h2 => cases h1 with | lit _ => rw [ih h2]
        exact key q5
      subst hus
      have hlt : j * m + i < n * m := by have := mul_lt_of (m := m) hj; omega
      rw [Nat.add_assoc, q6 _ (by rw [mvals_len]; exact hlt), mvals_get hj hi]
end
section
variable {P : Program} {α : Type} {T : Ty α} {f : α → List D} {fid : FuncId}
/-- A call that marks, of which only the number is asked. -/
theorem mfn_none (hbr : Br T f) {x : α} {agg : Bool} {k v : Int} (hp : ∀ args w, (callFunc fid args).run P w = .ok (.enter fid args) w) (hsm : litOk (.int .i64 v))
    (hc : ∀ (w : World) (us : List Value) (bs : List Nat), T.rep w x bs us → bs.Nodup → (∀ k ∈ bs, Un w k) → Calls P fid #[pack agg us, .int .i64 k] w fun e w' => e = .returned (.int .i64 v) ∧ Turn bs w w') : MFn P fid agg (f x) k v none :=
  ⟨hp, hsm, fun w us bs hv hnd hun => (hc w us bs (hbr.to hv) hnd hun).mono fun e w' ⟨h1, h2⟩ => ⟨h1, h2, fun l h => by cases h⟩⟩
theorem MFn.none {agg : Bool} {ds : List D} {k v : Int} {out : Option (List D)} (h : MFn P fid agg ds k v out) : MFn P fid agg ds k v none :=
  ⟨h.plain, h.small, fun w us bs hv hnd hun => (h.calls w us bs hv hnd hun).mono fun e w' ⟨h1, h2, _⟩ => ⟨h1, h2, fun l h => by cases h⟩⟩
/-- One field more of a structure. -/
theorem MFn.next {agg : Bool} {ds : List D} {k v : Int} {out : Option (List D)} (h : MFn P fid agg ds k v out) {w w1 : World} {us : List Value} {bt bs : List Nat} (ht : Turn bt w w1) (hv : VRs w ds us bs) (hnd : bs.Nodup) (hun : ∀ k ∈ bs, Un w k) (hdis : ∀ k ∈ bs, k ∉ bt) :
    Calls P fid #[pack agg us, .int .i64 k] w1 fun e w' => e = .returned (.int .i64 v) ∧ Turn bs w1 w' ∧ Turn (bt ++ bs) w w' :=
  (h.calls w1 us bs (hv.keep fun k hk => ht.block k (hv.inb k hk) (hdis k hk)) hnd fun k hk => ht.un_all (hun k hk)).mono fun e w' ⟨h1, h2, _⟩ =>
    ⟨h1, h2, (ht.mono fun k hk => List.mem_append_left _ hk).trans (h2.mono fun k hk => List.mem_append_right _ hk)⟩
end

/-! ### Fresh values, from contracts that were proved elsewhere -/
def frD : Nat → List D → List D
  | _, [] => []
  | i, .sh _ _ :: l => .own i :: frD (i + 1) l
  | i, d :: l => d :: frD i l
def frB : List D → List Blk
  | [] => []
  | .sh n xs :: l => .fr n xs :: frB l
  | _ :: l => frB l
theorem frB_arr : ∀ (l : List D), (frB l).all Blk.isArr = true
  | [] => rfl
  | d :: l => by cases d <;> simp [frB, frB_arr l, Blk.isArr]
theorem fr_post {w : World} {lo : Nat} : ∀ {ds : List D} {us : List Value} {bs : List Nat} (pre : List Ent), VRs w ds us bs → cellsOnly ds = true → (∀ k ∈ bs, lo ≤ k ∧ k < w.heap.size ∧ Un w k) →
    ∃ ms : List Ent, ms.length = (frB ds).length ∧ owned ms = bs ∧ (∀ (i : Nat) (b : Blk) (e : Ent), (frB ds)[i]? = some b → ms[i]? = some e → e.top = none ∧ ∃ n xs, b = .fr n xs ∧ VR w (.sh n xs) e.v e.nest ∧ ∀ k ∈ e.nest, Un w k) ∧ ∀ Ok, VXs (pre ++ ms) w Ok (frD pre.length ds) us
  | [], _, _, pre, .nil, _, _ => ⟨[], rfl, rfl, by simp [frB], fun _ => .nil⟩
  | d :: ds, _, _, pre, .cons (u := u) (bs := b1) h h', hc, hb => by
    cases d with
    | sh n xs =>
      obtain ⟨ms, h1, h2, h3, h4⟩ := fr_post (pre ++ [⟨u, none, b1⟩]) h' hc fun k hk => hb k (List.mem_append_right _ hk)
      refine ⟨⟨u, none, b1⟩ :: ms, by simp [frB, h1], by simp only [owned, List.flatMap_cons] at h2 ⊢; rw [h2]; rfl, fun i b e hi he => ?_, fun Ok => ?_⟩
      · cases i with
        | zero =>
          simp [frB] at hi he
          subst hi; subst he
          exact ⟨rfl, n, xs, rfl, h, fun k hk => (hb k (List.mem_append_left _ hk)).2.2⟩
        | succ i => exact h3 i b e (by simpa [frB] using hi) (by simpa using he)
      · have h5 := h4 Ok
        rw [List.append_assoc, List.length_append] at h5
        refine .cons (VX.own (e := ⟨u, none, b1⟩) (by simp) ?_) h5
        cases h with
        | shnil _ _ => exact ⟨_, _, _, rfl⟩
        | sh _ _ _ _ _ _ => exact ⟨_, _, _, rfl⟩
    | lit v =>
      obtain ⟨ms, h1, h2, h3, h4⟩ := fr_post pre h' hc fun k hk => hb k (List.mem_append_right _ hk)
      cases h with
      | lit hl => exact ⟨ms, h1, h2, h3, fun Ok => .cons (VX.of_lit hl) (h4 Ok)⟩
    | nil =>
      obtain ⟨ms, h1, h2, h3, h4⟩ := fr_post pre h' hc fun k hk => hb k (List.mem_append_right _ hk)
      cases h with
      | nil => exact ⟨ms, h1, h2, h3, fun Ok => .cons (.rd .nil (by simp)) (h4 Ok)⟩
    | _ => simp [cellsOnly] at hc

section
variable {P : Program} {α : Type} {T : Ty α} {f : α → List D} {fid : FuncId} {ds : List D} {A : Nat → Prop}
theorem post_fr {w w' : World} (hbr : Br T f) {x : α} (hc0 : cellsOnly (f x) = true) {cs : List Value} (hf : Fr T w.heap.size w'.heap.size w' x cs) (hx : Ext w w') :
    ∃ ms, ms.length = (frB (f x)).length ∧ (owned ms).Nodup ∧ (∀ k ∈ owned ms, w.heap.size ≤ k ∧ k < w'.heap.size) ∧ (∀ (i : Nat) (b : Blk) (e : Ent), (frB (f x))[i]? = some b → ms[i]? = some e → EntR w.heap.size ms w' (OkB w.heap.size A ms w') b e) ∧ ∀ Ok, VXs ms w' Ok (frD 0 (f x)) cs := by
  obtain ⟨bs, h1, h2, h3⟩ := hf
  obtain ⟨ms, m1, m2, m3, m4⟩ := fr_post [] (hbr.of h1) hc0 h3
  refine ⟨ms, m1, by rw [m2]; exact h2, fun k hk => ?_, fun i b e hi he => ?_, m4⟩
  · rw [m2] at hk; exact ⟨(h3 k hk).1, (h3 k hk).2.1⟩
  · obtain ⟨e1, n, xs, rfl, e2, e3⟩ := m3 i b e hi he
    exact ⟨e1, e2, e3⟩
theorem Fn.of_fr (hbr : Br T f) {x : α} (hc0 : cellsOnly (f x) = true) (hp : ∀ args w, (callFunc fid args).run P w = .ok (.enter fid args) w)
    (h : ∀ (w : World) (us : List Value), VXs [] w (Lt w) ds us → Calls P fid us.toArray w fun e w' => ∃ cs : List Value, e = .returned (.agg cs.toArray) ∧ Fr T w.heap.size w'.heap.size w' x cs ∧ Ext w w') : Fn P fid ds (.agg (frD 0 (f x))) (frB (f x)) := by
  refine ⟨hp, frB_arr _, fun A w us hA hus => (h w us (VXs.mono (fun k hk => ⟨rfl, hA k hk⟩) hus fun _ _ _ h => h)).mono ?_⟩
  rintro e w' ⟨cs, rfl, hf, hx⟩
  obtain ⟨ms, m1, m2, m3, m4, m5⟩ := post_fr (A := A) hbr hc0 hf hx
  exact ⟨_, ms, rfl, hx, m1, m2, m3, m4, .agg (m5 _)⟩
/-- One fresh slice. -/
theorem Fn.of_fr1 (hbr : Br T f) {x : α} {n : Nat} {xs : List (List D)} (hfx : f x = [.sh n xs]) (hp : ∀ args w, (callFunc fid args).run P w = .ok (.enter fid args) w)
    (h : ∀ (w : World) (us : List Value), VXs [] w (Lt w) ds us → Calls P fid us.toArray w fun e w' => ∃ u : Value, e = .returned u ∧ Fr T w.heap.size w'.heap.size w' x [u] ∧ Ext w w') : Fn P fid ds (.own 0) [.fr n xs] := by
  refine ⟨hp, rfl, fun A w us hA hus => (h w us (VXs.mono (fun k hk => ⟨rfl, hA k hk⟩) hus fun _ _ _ h => h)).mono ?_⟩
  rintro e w' ⟨u, rfl, hf, hx⟩
  obtain ⟨ms, m1, m2, m3, m4, m5⟩ := post_fr (A := A) hbr (by rw [hfx]; rfl) hf hx
  rw [hfx] at m1 m4 m5
  obtain ⟨u', e1, h1⟩ := vxs_one (m5 (OkB w.heap.size A ms w'))
  simp only [List.cons.injEq, and_true] at e1
  subst e1
  exact ⟨_, ms, rfl, hx, m1, m2, m3, m4, h1⟩
end
theorem lessen_or (left : Int) (n : Nat) : ((n : Int) ≤ left ∧ lessen left n = left - n) ∨ (left < n ∧ lessen left n = -1) := by
  unfold lessen; split <;> omega
theorem digs_size : ∀ (f j : Nat) (s : ByteArray), (digs f j s).size ≤ s.size + j
  | 0, _, _ => by simp [digs]
  | f + 1, j, s => by
    rw [digs]
    split
    · omega
    · have h1 := digs_size f (j / 10) (dig j ++ s)
      rw [ByteArray.size_append, show (dig j).size = 1 from rfl] at h1
      omega
theorem markStr_size (n : Int) : (markStr n).size ≤ n.toNat + 2 := by
  unfold markStr
  split
  · show 2 ≤ _; omega
  · have := digs_size n.toNat n.toNat ⟨#[]⟩
    rw [ByteArray.size_append]
    have h1 : (⟨#[109]⟩ : ByteArray).size = 1 := rfl
    have h2 : (⟨#[]⟩ : ByteArray).size = 0 := rfl
    omega
theorem vrs_cons {w : World} {d : D} {ds : List D} {us : List Value} {bs : List Nat} (h : VRs w (d :: ds) us bs) : ∃ u us' b bs', us = u :: us' ∧ bs = b ++ bs' ∧ VR w d u b ∧ VRs w ds us' bs' := by
  cases h with | cons h h' => exact ⟨_, _, _, _, rfl, rfl, h, h'⟩
theorem vrs_nil {w : World} {us : List Value} {bs : List Nat} (h : VRs w [] us bs) : us = [] ∧ bs = [] := by
  cases h; exact ⟨rfl, rfl⟩
end Go.Proofs.YtcpjhpjlcgcigaaGreatDoor
