/- Symbolic states: values by their types (Ty), and as plain data (D): the same. No condition. -/
import Derived.Test.YtidfmgahnmpcdaaAbsR
set_option linter.unusedSimpArgs false
set_option linter.unusedVariables false
namespace Go.Proofs.Ytidfmgahnmpcdaa
open Go.ChangeShapes Go.WideShapes Go.ChangeAt Go.RowKit

/-- The cells of a value of a type, as data. -/
structure Br {α : Type} (T : Ty α) (f : α → List D) : Prop where
  n : ∀ x, (f x).length = T.n
  to : ∀ {w : World} {x : α} {us : List Value} {bs : List Nat}, VRs w (f x) us bs → T.rep w x bs us
  of : ∀ {w : World} {x : α} {us : List Value} {bs : List Nat}, T.rep w x bs us → VRs w (f x) us bs

theorem vrs_one {w : World} {d : D} {us : List Value} {bs : List Nat} (h : VRs w [d] us bs) : ∃ u, us = [u] ∧ VR w d u bs := by
  cases h with
  | cons h1 h2 => cases h2; exact ⟨_, rfl, by simpa using h1⟩
theorem vrs_split {w : World} : ∀ {ds ds' : List D} {us : List Value} {bs : List Nat}, VRs w (ds ++ ds') us bs → ∃ u1 u2 b1 b2, us = u1 ++ u2 ∧ bs = b1 ++ b2 ∧ VRs w ds u1 b1 ∧ VRs w ds' u2 b2
  | [], _, us, bs, h => ⟨[], us, [], bs, rfl, rfl, .nil, h⟩
  | d :: ds, ds', _, _, .cons h h' => by
    obtain ⟨u1, u2, b1, b2, rfl, rfl, h1, h2⟩ := vrs_split h'
    exact ⟨_ :: u1, u2, _ ++ b1, b2, rfl, by rw [List.append_assoc], .cons h h1, h2⟩

theorem br_int : Br tInt fun x => [.lit (.int .i64 x)] where
  n _ := rfl
  to h := by
    obtain ⟨u, rfl, hu⟩ := vrs_one h
    cases hu with | lit hl => exact ⟨rfl, rfl, litOk_i64.1 hl⟩
  of h := by obtain ⟨rfl, rfl, h⟩ := h; exact VRs.cons (bs := []) (.lit (litOk_i64.2 h)) .nil
theorem br_bool : Br tBool fun x => [.lit (.bool x)] where
  n _ := rfl
  to h := by
    obtain ⟨u, rfl, hu⟩ := vrs_one h
    cases hu with | lit hl => exact ⟨rfl, rfl⟩
  of h := by obtain ⟨rfl, rfl⟩ := h; exact VRs.cons (bs := []) (.lit trivial) .nil
theorem br_str : Br tStr fun x => [.lit (.string x)] where
  n _ := rfl
  to h := by
    obtain ⟨u, rfl, hu⟩ := vrs_one h
    cases hu with | lit hl => exact ⟨rfl, rfl, hl⟩
  of h := by obtain ⟨rfl, rfl, h⟩ := h; exact VRs.cons (bs := []) (.lit h) .nil
theorem br_pair {α β : Type} {T : Ty α} {U : Ty β} {f : α → List D} {g : β → List D} (hf : Br T f) (hg : Br U g) : Br (tPair T U) fun x => f x.1 ++ g x.2 where
  n x := by simp [hf.n, hg.n, tPair]
  to h := by
    obtain ⟨u1, u2, b1, b2, rfl, rfl, h1, h2⟩ := vrs_split h
    exact ⟨b1, b2, u1, u2, rfl, rfl, hf.to h1, hg.to h2⟩
  of h := by
    obtain ⟨b1, b2, u1, u2, rfl, rfl, h1, h2⟩ := h
    exact (hf.of h1).append (hg.of h2)
theorem br_iso {α β : Type} {T : Ty α} {f : α → List D} (hf : Br T f) (g : β → α) : Br (tIso T g) fun x => f (g x) where
  n _ := hf.n _
  to h := hf.to h
  of h := hf.of h

theorem rows_of {α : Type} [Inhabited α] {f : α → List D} {n : Nat} (hn : ∀ x, (f x).length = n) {w : World} : ∀ {l : List α} {us : List Value} {bs : List Nat}, VRs w (l.map f).flatten us bs → ∃ bss, bs = bss.flatten ∧ bss.length = l.length ∧ ∀ i, i < l.length → VRs w (f (nth l i)) ((us.drop (i * n)).take n) (nth bss i)
  | [], us, bs, h => by
    cases h; exact ⟨[], rfl, rfl, fun i hi => by simp at hi⟩
  | x :: l, us, bs, h => by
    rw [List.map_cons, List.flatten_cons] at h
    obtain ⟨u1, u2, b1, b2, rfl, rfl, h1, h2⟩ := vrs_split h
    obtain ⟨bss, rfl, h3, h4⟩ := rows_of hn h2
    have hl : u1.length = n := by rw [h1.len, hn]
    refine ⟨b1 :: bss, rfl, by simp [h3], fun i hi => ?_⟩
    cases i with
    | zero => simp only [nth_cons_zero, Nat.zero_mul, List.drop_zero]; rw [← hl, List.take_left]; exact h1
    | succ i =>
      rw [nth_cons_succ, nth_cons_succ, show (i + 1) * n = u1.length + i * n by rw [hl, Nat.add_mul]; omega, ← List.drop_drop, List.drop_left]
      exact h4 i (by simpa using hi)
theorem of_rows {α : Type} [Inhabited α] {f : α → List D} {n : Nat} (hn : ∀ x, (f x).length = n) {w : World} : ∀ {l : List α} {us : List Value} {bss : List (List Nat)}, us.length = l.length * n → bss.length = l.length → (∀ i, i < l.length → VRs w (f (nth l i)) ((us.drop (i * n)).take n) (nth bss i)) → VRs w (l.map f).flatten us bss.flatten
  | [], us, bss, h1, h2, _ => by
    have e1 : us = [] := List.length_eq_zero_iff.1 (by simpa using h1)
    have e2 : bss = [] := List.length_eq_zero_iff.1 (by simpa using h2)
    subst e1; subst e2; exact .nil
  | x :: l, us, [], h1, h2, _ => by simp at h2
  | x :: l, us, b1 :: bss, h1, h2, h3 => by
    have h0 := h3 0 (by simp)
    simp only [nth_cons_zero, Nat.zero_mul, List.drop_zero] at h0
    have := of_rows hn (l := l) (us := us.drop n) (bss := bss) (by simp [h1, Nat.add_mul]) (by simpa using h2) (fun i hi => by
      have := h3 (i + 1) (by simpa using hi)
      rw [nth_cons_succ, nth_cons_succ, show (i + 1) * n = n + i * n by rw [Nat.add_mul]; omega, ← List.drop_drop] at this; exact this)
    rw [List.map_cons, List.flatten_cons, List.flatten_cons, ← List.take_append_drop n us]
    exact h0.append this

theorem br_sl {α : Type} [Inhabited α] {T : Ty α} {f : α → List D} (hf : Br T f) : Br (tSl T) fun l => [.sh T.n (l.map f)] where
  n _ := rfl
  to := by
    intro w l us bs h
    obtain ⟨u, rfl, hu⟩ := vrs_one h
    generalize hxs : l.map f = xs at hu
    cases hu with
    | shnil h1 h2 =>
      have hl : l = [] := by simpa using hxs
      subst hl
      exact ⟨_, _, rfl, by simp, h1, h2, Or.inl ⟨rfl, rfl⟩⟩
    | sh h1 h2 h3 h4 h5 h6 =>
      rename_i b o cap us bs
      subst hxs
      obtain ⟨bss, rfl, q1, q2⟩ := rows_of hf.n h5
      refine ⟨_, _, by rw [List.length_map], by simpa using h2, h3, by simp, Or.inr ⟨b, o, bss, rfl, h4, rfl, q1, fun i hi => ⟨_, hf.to (q2 i hi), fun j hj => ?_⟩⟩⟩
      have hlen := h5.len
      rw [flatten_len h1, List.length_map] at hlen
      have := mul_lt_of (m := T.n) hi
      rw [List.getElem?_take, if_pos hj, List.getElem?_drop, Nat.add_assoc]
      exact h6 _ (by omega)
  of := by
    intro w l us bs h
    obtain ⟨a, cap, rfl, h1, h2, h3, h4⟩ := h
    refine VRs.cons (bs' := []) ?_ .nil |> fun h => by simpa using h
    rcases h4 with ⟨rfl, rfl⟩ | ⟨b, o, bss, rfl, hb, rfl, hl, he⟩
    · exact .shnil h2 h3
    · have hex : ∀ i, i < l.length → ∃ cs, T.rep w (nth l i) (nth bss i) cs ∧ ∀ j, j < T.n → w.cell? ⟨b, o + i * T.n + j, none⟩ = cs[j]? := he
      let us : List Value := (List.range (l.length * T.n)).map fun k => (w.cell? ⟨b, o + k, none⟩).getD undef
      have hus : ∀ i, i < l.length → ∀ cs, T.rep w (nth l i) (nth bss i) cs → (∀ j, j < T.n → w.cell? ⟨b, o + i * T.n + j, none⟩ = cs[j]?) → (us.drop (i * T.n)).take T.n = cs := by
        intro i hi cs hr hc
        have hlen := T.len hr
        have hm := mul_lt_of (m := T.n) hi
        apply List.ext_getElem?
        intro j
        by_cases hj : j < T.n
        · rw [List.getElem?_take, if_pos hj, List.getElem?_drop]
          have e := hc j hj
          have hjc : j < cs.length := by omega
          rw [List.getElem?_eq_getElem hjc] at e ⊢
          simp only [us, List.getElem?_map, List.getElem?_range (show i * T.n + j < l.length * T.n by omega), Option.map_some]
          rw [← Nat.add_assoc, e]; rfl
        · rw [List.getElem?_eq_none (by simp [us]; omega), List.getElem?_eq_none (by omega)]
      have hv : VRs w (l.map f).flatten us bss.flatten := of_rows hf.n (by simp [us]) hl fun i hi => by
        obtain ⟨cs, hr, hc⟩ := hex i hi
        rw [hus i hi cs hr hc]; exact hf.of hr
      have := VR.sh (n := T.n) (o := o) (cap := cap) (fun r hr => by obtain ⟨x, _, rfl⟩ := List.mem_map.1 hr; exact hf.n x) (by simpa using h1) h2 hb hv (fun k hk => by
        have hk' : k < l.length * T.n := by simpa [us] using hk
        have hT : 0 < T.n := by
          rcases Nat.eq_zero_or_pos T.n with h | h
          · rw [h] at hk'; simp at hk'
          · exact h
        have hi : k / T.n < l.length := Nat.div_lt_of_lt_mul (by rw [Nat.mul_comm]; exact hk')
        obtain ⟨cs, hr, hc⟩ := hex (k / T.n) hi
        have hj : k % T.n < T.n := Nat.mod_lt _ hT
        have e := hc (k % T.n) hj
        have ek : o + k / T.n * T.n + k % T.n = o + k := by rw [Nat.add_assoc, Nat.mul_comm, Nat.div_add_mod]
        rw [ek] at e
        have hjc : k % T.n < cs.length := by rw [T.len hr]; exact hj
        rw [List.getElem?_eq_getElem hjc] at e
        simp only [us, List.getElem?_map, List.getElem?_range hk', Option.map_some]
        rw [e]; rfl)
      simpa using this

section
variable {P : Program} {w : World} {A : Nat → Prop} {α : Type} {T : Ty α} {f : α → List D}
/-- A value that reads so, as an argument. -/
theorem Br.vxs (hf : Br T f) {x : α} {us : List Value} (h : T.R w x us) : VXs [] w (Lt w) (f x) us := by
  obtain ⟨bs, h⟩ := h
  exact VXs.of_rd (hf.of h) (T.inb h)
theorem given_str {ds : List D} (h : Given w A ds) {i : Nat} {s : ByteArray} (hd : ds[i]? = some (.lit (.string s))) : s.size ≤ 9223372036854775807 := by
  obtain ⟨u, hu⟩ := given_vr h hd
  exact hu.lit_inv.2
def cellsOnly : List D → Bool
  | [] => true
  | .lit _ :: l => cellsOnly l
  | .nil :: l => cellsOnly l
  | .sh _ _ :: l => cellsOnly l
  | _ :: _ => false
theorem rds_of {Ok : Nat → Prop} {ms : List Ent} : ∀ {ds : List D} {us : List Value}, cellsOnly ds = true → VXs ms w Ok ds us → ∃ bs, VRs w ds us bs ∧ ∀ k ∈ bs, Ok k
  | [], _, _, .nil => ⟨[], .nil, by simp⟩
  | d :: ds, u :: us, hc, .cons h h' => by
    have key : (∃ bs, VR w d u bs ∧ ∀ k ∈ bs, Ok k) ∧ cellsOnly ds = true := by
      cases d <;> simp only [cellsOnly, Bool.false_eq_true] at hc
      · obtain ⟨rfl, hl⟩ := h.lit_inv; exact ⟨⟨[], .lit hl, by simp⟩, hc⟩
      · rw [h.nil_inv]; exact ⟨⟨[], .nil, by simp⟩, hc⟩
      · exact ⟨h.sh_inv, hc⟩
    obtain ⟨⟨b1, h1, h2⟩, h3⟩ := key
    obtain ⟨b2, h4, h5⟩ := rds_of h3 h'
    exact ⟨_, .cons h1 h4, fun k hk => (List.mem_append.1 hk).elim (h2 k) (h5 k)⟩
theorem Br.of_vxs (hf : Br T f) {x : α} {us : List Value} {ms : List Ent} {Ok : Nat → Prop} (hc : cellsOnly (f x) = true) (h : VXs ms w Ok (f x) us) : T.R w x us := by
  obtain ⟨bs, h, _⟩ := rds_of hc h
  exact ⟨bs, hf.to h⟩
theorem vxs_one {ms : List Ent} {Ok : Nat → Prop} {d : D} {us : List Value} (h : VXs ms w Ok [d] us) : ∃ u, us = [u] ∧ VX ms w Ok d u := by
  cases h with
  | cons h1 h2 => cases h2; exact ⟨_, rfl, h1⟩
theorem vxs_cons {ms : List Ent} {Ok : Nat → Prop} {d : D} {ds : List D} {us : List Value} (h : VXs ms w Ok (d :: ds) us) : ∃ u us', us = u :: us' ∧ VX ms w Ok d u ∧ VXs ms w Ok ds us' := by
  cases h with
  | cons h1 h2 => exact ⟨_, _, rfl, h1, h2⟩
theorem Br.R (hf : Br T f) {x : α} {us : List Value} {bs : List Nat} (h : VRs w (f x) us bs) : T.R w x us := ⟨bs, hf.to h⟩
/-- The contract of a function with a scalar result, for the walk of a law. -/
theorem Fn.lit {fid : FuncId} {ds : List D} {v : Value} (hF : Fn P fid ds (.lit v) []) {us : List Value} (hv : VXs [] w (Lt w) ds us) : Calls P fid us.toArray w fun e w' => e = .returned v ∧ Ext w w' :=
  (hF.calls (Lt w) w us (fun _ h => h) hv).mono fun e w' ⟨u, ms, he, hp⟩ => ⟨by rw [he]; congr 1; exact hp.val.lit_inv.1, hp.ext⟩
theorem Fn.lit2 {fid : FuncId} {ds : List D} {v v' : Value} (hF : Fn P fid ds (.tup [.lit v, .lit v']) []) {us : List Value} (hv : VXs [] w (Lt w) ds us) : Calls P fid us.toArray w fun e w' => e = .returned (.tuple #[v, v']) ∧ Ext w w' :=
  (hF.calls (Lt w) w us (fun _ h => h) hv).mono fun e w' ⟨u, ms, he, hp⟩ => by
    obtain ⟨us, hu, hv⟩ := hp.val.tup_inv
    cases hv with
    | cons h1 h2 => cases h2 with
      | cons h3 h4 => cases h4; rw [h1.lit_inv.1, h3.lit_inv.1] at hu; exact ⟨by rw [he, hu], hp.ext⟩
/-- And back: a function whose contract was proved elsewhere. -/
theorem Fn.of_lit {fid : FuncId} {ds : List D} {v : Value} (hl : litOk v) (hp : ∀ args w, (callFunc fid args).run P w = .ok (.enter fid args) w) (h : ∀ (w : World) (us : List Value), VXs [] w (Lt w) ds us → Calls P fid us.toArray w fun e w' => e = .returned v ∧ Ext w w') : Fn P fid ds (.lit v) [] := by
  refine ⟨hp, rfl, fun A w us hA hus => (h w us (VXs.mono (fun k hk => ⟨rfl, hA k hk⟩) hus fun _ _ _ h => h)).mono ?_⟩
  rintro e w' ⟨rfl, hx⟩
  exact ⟨v, [], rfl, hx, rfl, by simp [owned], by simp [owned], by simp, VX.of_lit hl⟩
theorem plain_of {fid : FuncId} {fn : Func} (hf : P.funcs[fid]? = some fn) (hname : (fn.name == "runtime.NumGoroutine") = false) (hb : fn.body.isNone = false) : ∀ args w, (callFunc fid args).run P w = .ok (.enter fid args) w := by
  intro args w
  have h1 : ¬ fn.name = "runtime.NumGoroutine" := by simpa using hname
  have h2 : ¬ fn.body = none := by intro e; rw [e] at hb; simp at hb
  simp [callFunc, program, Sem.run, go_sem, hf, h1, h2]
end
end Go.Proofs.Ytidfmgahnmpcdaa
