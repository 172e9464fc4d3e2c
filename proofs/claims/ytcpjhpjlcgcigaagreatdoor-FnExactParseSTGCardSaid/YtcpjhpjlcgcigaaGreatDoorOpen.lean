/- From the form's reading of an argument to this seat's own (Ty.R). No condition. -/
import Derived.Test.YtcpjhpjlcgcigaaGreatDoorLibc
import Derived.WideKeyArgs
import Derived.ChangeSame
set_option linter.unusedSimpArgs false
set_option linter.unusedVariables false
namespace Go.Proofs.YtcpjhpjlcgcigaaGreatDoor
open Go.ChangeShapes Go.WideShapes Go.ChangeAt Go.RowKit

section
variable {H : Type} {enc : TypeId × Value → H} {P : Program} {w : World} {held : Bool} {sp : Nat → Bool}

/-- Whatever can be read at the type t reads as a T. -/
def Opens (P : Program) (t : TypeId) {α : Type} (T : Ty α) : Prop :=
  ∀ (H : Type) (enc : TypeId × Value → H) (w : World) (sp : Nat → Bool) (held : Bool) (fuel : Nat) (cs : List Value) (y : DataW H × List MemPlace), DataW.trod enc P w 0 sp held fuel t cs = some y → ∃ x, T.R w x cs

theorem opens_int {t : TypeId} (ht : P.underlying t = some (.int .i64)) : Opens P t tInt := by
  intro H enc w sp held fuel cs y h
  obtain ⟨n, rfl, _, hw⟩ := DataW.trod_int ht h
  have e1 : IntKind.i64.min = -9223372036854775808 := by decide
  have e2 : IntKind.i64.max = 9223372036854775807 := by decide
  simp only [Lit.wf, Bool.and_eq_true, decide_eq_true_eq, e1, e2] at hw
  exact ⟨n, R_int.2 ⟨rfl, hw⟩⟩
theorem opens_bool {t : TypeId} (ht : P.underlying t = some .bool) : Opens P t tBool := by
  intro H enc w sp held fuel cs y h
  obtain ⟨n, rfl, _⟩ := DataW.trod_bool ht h
  exact ⟨n, R_bool.2 rfl⟩
theorem opens_str {t : TypeId} (ht : P.underlying t = some .string) : Opens P t tStr := by
  intro H enc w sp held fuel cs y h
  obtain ⟨n, rfl, _, hs⟩ := DataW.trod_string ht h
  exact ⟨n, R_str.2 ⟨rfl, by unfold maxLen at hs; omega⟩⟩
theorem opens_sl {α : Type} [Inhabited α] {T : Ty α} {t e : TypeId} (ht : P.underlying t = some (.slice e)) (hc : P.cellsOf e = T.n) (hn : 0 < T.n) (he : Opens P e T) : Opens P t (tSl T) := by
  intro H enc w sp held fuel cs y h
  rcases DataW.trod_slice ht h with ⟨rfl, _⟩ | ⟨a, len, cap, elems, rest, n, rfl, rfl, _, _, h1, h2, h3, h4, _, _⟩
  · exact ⟨[], R_sl.2 ⟨rfl, by simp, by omega, fun _ => rfl, [], Or.inl ⟨rfl, rfl⟩⟩⟩
  · by_cases hl : len = 0
    · subst hl
      exact ⟨[], R_sl.2 ⟨rfl, by omega, by unfold maxLen at h2; omega, by simp, [], Or.inl ⟨rfl, rfl⟩⟩⟩
    · have key : ∀ i, i < len → ∃ x bs cs, T.rep w x bs cs ∧ cs.length = T.n ∧ ∀ j, j < T.n → w.cell? ((a.add (i * T.n)).add j) = cs[j]? := by
        intro i hi
        have := h4 i hi
        rw [hc] at this
        have hsome : (elems[i]?).isSome := by simp [h3, hi]
        rw [← this] at hsome
        cases hcs : w.cells? 0 (a.add (i * T.n)) T.n with
        | none => rw [hcs] at hsome; simp at hsome
        | some cs =>
          rw [hcs] at hsome
          cases hd : DataW.trod enc P w 0 sp held n e cs with
          | none => simp [hd] at hsome
          | some y =>
            obtain ⟨x, bs, hx⟩ := he H enc w sp held n cs y hd
            exact ⟨x, bs, cs, hx, T.len hx, (World.cells?_some hcs).2.2⟩
      obtain ⟨b, o, spot⟩ := a
      have hspot : spot = none := by
        obtain ⟨x, bs, cs, _, hl', hcell⟩ := key 0 (by omega)
        have := hcell 0 hn
        rw [List.getElem?_eq_getElem (by omega)] at this
        simp only [Nat.zero_mul, Addr.add, if_true] at this
        cases spot with
        | none => rfl
        | some z => unfold World.cell? at this; split at this <;> simp at this
      subst hspot
      have hadd : ∀ o k, (⟨b, o, none⟩ : Addr).add k = ⟨b, o + k, none⟩ := by
        intro o k; unfold Addr.add; split
        · rename_i h0; subst h0; rfl
        · rfl
      have hb : b < w.heap.size := by
        obtain ⟨x, bs, cs, _, hl', hcell⟩ := key 0 (by omega)
        have := hcell 0 hn
        rw [List.getElem?_eq_getElem (by omega), hadd, hadd] at this
        exact lt_of_cell this
      let X := fun i => if hi : i < len then Classical.choose (key i hi) else default
      have hX : ∀ i, i < len → ∃ bs cs, T.rep w (X i) bs cs ∧ cs.length = T.n ∧ ∀ j, j < T.n → w.cell? (((⟨b, o, none⟩ : Addr).add (i * T.n)).add j) = cs[j]? := by
        intro i hi
        have := Classical.choose_spec (key i hi)
        simpa only [X, hi, dif_pos] using this
      let B := fun i => if hi : i < len then Classical.choose (hX i hi) else []
      have hB : ∀ i, i < len → ∃ cs, T.rep w (X i) (B i) cs ∧ cs.length = T.n ∧ ∀ j, j < T.n → w.cell? (((⟨b, o, none⟩ : Addr).add (i * T.n)).add j) = cs[j]? := by
        intro i hi
        have := Classical.choose_spec (hX i hi)
        simpa only [B, hi, dif_pos] using this
      refine ⟨(List.range len).map X, R_sl.2 ⟨by simp, h1, by unfold maxLen at h2; omega, by simp, b :: ((List.range len).map B).flatten, Or.inr ⟨b, o, (List.range len).map B, rfl, hb, rfl, by simp, ?_⟩⟩⟩
      intro i hi
      simp only [List.length_map, List.length_range] at hi
      obtain ⟨cs, hr, hl', hcell⟩ := hB i hi
      refine ⟨cs, ?_, fun j hj => ?_⟩
      · have e1 : nth ((List.range len).map X) i = X i := by simp [nth, hi]
        have e2 : nth ((List.range len).map B) i = B i := by simp [nth, hi]
        rw [e1, e2]; exact hr
      · have := hcell j hj
        rw [hadd, hadd] at this
        exact this
end
section
variable {H : Type} {enc : TypeId × Value → H} {P : Program}
/-- The row's last step where the world is known by Below alone. -/
theorem post_of_below {f : Func} {s : ChangeSpec} {apart fresh handsOn again : Bool} {W W' : World} {args : Array Value} {v : Value} {ds gs : List (DataW H)} {before pa pv : List MemPlace}
    (hW : DataW.Whole enc P f.params.toList s.vars apart W args.toList ds gs before)
    (hres : ∀ (b : Nat) (sp : Nat → Bool) (hd : Bool), DataW.TrodAll enc P W' b sp hd f.resultTypes.toList (v.resultList f.resultTypes.size) (s.fn H (ds ++ gs)).results [])
    (hargs : ∀ sp : Nat → Bool, (∀ p ∈ before, sp p.block = true) → DataW.TrodAll enc P W' 0 sp true f.params.toList args.toList (s.fn H (ds ++ gs)).args pa)
    (hvars : ∀ sp : Nat → Bool, (∀ p ∈ before, sp p.block = true) → DataW.TrodVars enc P W' sp s.vars (s.fn H (ds ++ gs)).vars pv)
    (hps : before = pa ++ pv) (hb : Below W.heap.size W W')
    (hok : ∀ (j : Nat) (t : TypeId) (r : Value), f.resultTypes[j]? = some t → (v.resultList f.resultTypes.size)[j]? = some r → Value.okWide P W' .any 0 t r) :
    s.post enc P f apart fresh handsOn again W args v W' := by
  have hlt : ∀ p ∈ before, p.block < W.heap.size := fun p hp => hW.lt p hp
  have hold : ∀ p ∈ before, (fun b => decide (b < W.heap.size)) p.block = true := fun p hp => by simpa using hlt p hp
  refine ⟨ds, gs, before, [], pa, pv, hW, hres _ _ _, hargs _ hold, hvars _ hold, World.keptBut_mono (fun p hp => ⟨hp, ?_⟩) (hb.frame (· ∈ before)), fun _ => ?_⟩
  · rw [hps, List.mem_append] at hp
    exact Or.inr hp
  · obtain ⟨_, _, _, _, _, hz, hn⟩ := hW
    refine ⟨hok, _, _, ([] ++ pa) ++ pv, ⟨[] ++ pa, pv, trodAll_append (hargs _ (fun _ _ => rfl)) (hres _ _ _), hvars _ (fun _ _ => rfl), rfl, ?_, ?_⟩, ?_⟩
    · intro b off hp
      have hin : MemPlace.cell b off ∈ before := by rw [hps]; simpa using hp
      rw [hb.frozen (hlt _ hin)]
      exact hz b off hin
    · intro ha
      have := hn ha
      rw [hps] at this
      simpa using this
    · intro p hp _
      rw [hps]
      simpa using hp

/-- All arguments read as they did. -/
theorem trodAll_below (hl : laidOutB P = true) {W W' : World} (hb : Below W.heap.size W W') {sp : Nat → Bool} : ∀ {ts : List TypeId} {vs : List Value} {ds : List (DataW H)} {ps : List MemPlace},
    (∀ t ∈ ts, P.readableRec t = true ∧ t < P.types.size) → DataW.TrodAll enc P W 0 (fun _ => true) true ts vs ds ps → (∀ p ∈ ps, p.block < W.heap.size) → (∀ p ∈ ps, sp p.block = true) → DataW.TrodAll enc P W' 0 sp true ts vs ds ps
  | [], [], [], _, _, h, _, _ => h
  | t :: ts, v :: vs, d :: ds, _, ht, ⟨p, q, h1, h2, e⟩, hlt, hs => by
    subst e
    refine ⟨p, q, WideElems.Trod_stays hl (ht t (by simp)).1 (ht t (by simp)).2 h1 (fun x hx => hb.same (hlt x (by simp [hx]))) (fun x hx => hs x (by simp [hx])), trodAll_below hl hb (fun t h => ht t (by simp [h])) h2 (fun x hx => hlt x (by simp [hx])) (fun x hx => hs x (by simp [hx])), rfl⟩
  | [], _ :: _, _, _, _, h, _, _ => h.elim
  | [], [], _ :: _, _, _, h, _, _ => h.elim
  | _ :: _, [], _, _, _, h, _, _ => h.elim
  | _ :: _, _ :: _, [], _, _, h, _, _ => h.elim

theorem okWide_struct {w : World} {r : Reach} {b0 : Nat} {t : TypeId} {v : Value} {fs : Array Field} (ht : P.underlying t = some (.struct fs)) (h : Value.okWide P w r b0 t v) : ∃ cs, v = .agg cs := by
  unfold Value.okWide at h
  rw [ht] at h
  obtain ⟨cs, h, _⟩ := h
  exact ⟨cs, h⟩

/-- An argument of a struct's type, opened. -/
theorem open_struct {α : Type} {T : Ty α} {w : World} {sp : Nat → Bool} {held : Bool} {r : Reach} {b0 : Nat} {t : TypeId} {v : Value} {d : DataW H} {ps : List MemPlace} {fs : Array Field} (ho : Opens P t T) (ht : P.underlying t = some (.struct fs))
    (hval : Value.okWide P w r b0 t v) (hd : DataW.Trod enc P w 0 sp held t v d ps) : ∃ cs x, v = .agg cs ∧ T.R w x cs.toList := by
  obtain ⟨cs, rfl⟩ := okWide_struct ht hval
  obtain ⟨fuel, hf⟩ := hd
  obtain ⟨x, hx⟩ := ho H enc w sp held fuel _ _ hf
  exact ⟨cs, x, rfl, hx⟩
theorem open_slice {α : Type} [Inhabited α] {T : Ty α} {w : World} {sp : Nat → Bool} {held : Bool} {r : Reach} {b0 : Nat} {t e : TypeId} {v : Value} {d : DataW H} {ps : List MemPlace} (ho : Opens P t (tSl T)) (ht : P.underlying t = some (.slice e))
    (hval : Value.okWide P w r b0 t v) (hd : DataW.Trod enc P w 0 sp held t v d ps) : ∃ a c l, v = .slice a l.length c ∧ (tSl T).R w l [.slice a l.length c] := by
  obtain ⟨a, n, c, rfl⟩ := Go.WideShapes.okWide_slice ht hval
  obtain ⟨fuel, hf⟩ := hd
  obtain ⟨x, hx⟩ := ho H enc w sp held fuel _ _ hf
  simp only [Value.cells] at hx
  obtain ⟨e1, _⟩ := R_sl.1 hx
  subst e1
  exact ⟨a, c, x, rfl, hx⟩
theorem open_str {w : World} {sp : Nat → Bool} {held : Bool} {r : Reach} {b0 : Nat} {t : TypeId} {v : Value} {d : DataW H} {ps : List MemPlace} (ht : P.underlying t = some .string)
    (hval : Value.okWide P w r b0 t v) (hd : DataW.Trod enc P w 0 sp held t v d ps) : ∃ s : ByteArray, v = .string s ∧ s.size ≤ 9223372036854775807 := by
  obtain ⟨s, h, _, _, hs⟩ := Go.ChangeMaps.open_string ht hval hd
  exact ⟨s, h, by unfold maxLen at hs; omega⟩
theorem open_i64 {w : World} {sp : Nat → Bool} {held : Bool} {r : Reach} {b0 : Nat} {t : TypeId} {v : Value} {d : DataW H} {ps : List MemPlace} (ht : P.underlying t = some (.int .i64))
    (hval : Value.okWide P w r b0 t v) (hd : DataW.Trod enc P w 0 sp held t v d ps) : ∃ n : Int, v = .int .i64 n ∧ Int64 n := by
  obtain ⟨n, h, _, _, hw⟩ := Go.ChangeShapes.open_int ht hval hd
  have e1 : IntKind.i64.min = -9223372036854775808 := by decide
  have e2 : IntKind.i64.max = 9223372036854775807 := by decide
  simp only [Lit.wf, Bool.and_eq_true, decide_eq_true_eq, e1, e2] at hw
  exact ⟨n, h, hw⟩
end
end Go.Proofs.YtcpjhpjlcgcigaaGreatDoor
