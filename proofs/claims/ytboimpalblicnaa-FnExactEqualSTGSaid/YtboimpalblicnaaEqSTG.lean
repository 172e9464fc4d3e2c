/- EqualSTG, the reference's and the program's: what they compute. -/
import Derived.Test.YtboimpalblicnaaFinds
namespace Go.Proofs.Ytboimpalblicnaa
open Go.ChangeShapes Go.WideShapes Go.ChangeAt Go.RowKit

def sameTr (x y : Tr) : Bool := decide (x.pre = y.pre) && decide (x.post = y.post)
theorem sameTr_iff {x y : Tr} : sameTr x y = true ↔ x = y := by
  cases x; cases y; simp [sameTr]

set_option maxHeartbeats 400000 in
theorem equalTransitions_c (w : World) (a0 : Option Addr) (c0 : Nat) (a1 : Option Addr) (c1 : Nat) (x : Tr) (h : tTr.R w x [.slice a0 x.pre.length c0, .slice a1 x.post.length c1])
    (b0 : Option Addr) (d0 : Nat) (b1 : Option Addr) (d1 : Nat) (y : Tr) (h' : tTr.R w y [.slice b0 y.pre.length d0, .slice b1 y.post.length d1]) :
    Calls Try.prog 137 #[.agg #[.slice a0 x.pre.length c0, .slice a1 x.post.length c1], .agg #[.slice b0 y.pre.length d0, .slice b1 y.post.length d1]] w fun e w' => e = .returned (.bool (sameTr x y)) ∧ Ext w w' := by
  have HB : Hid (sameTr x y = (decide (x.pre = y.pre) && decide (x.post = y.post))) := Lib.hid rfl
  obtain ⟨h0, h1⟩ := R_Tr.1 h
  obtain ⟨h0', h1'⟩ := R_Tr.1 h'
  have H0 := Lib.hid h0
  have H1 := Lib.hid h1
  have H0' := Lib.hid h0'
  have H1' := Lib.hid h1'
  clear h h' h0 h1 h0' h1'
  go_enter Try.func137, Try.ntmps137
  go_wp2_with fail
  refine (Equal_Int_c _ _ _ _ _ _ _ (H0.out.ext (((Ext.refl _).alloc _).alloc _)) (H0'.out.ext (((Ext.refl _).alloc _).alloc _))).mono ?_
  rintro e w1 ⟨rfl, hx1⟩
  have hE1 : Ext w w1 := (((Ext.refl _).alloc _).alloc _).trans hx1
  obtain ⟨hk1, hf1⟩ := hx1.cells
  simp only [World.size_alloc] at hk1 hf1
  cases hg : decide (x.pre = y.pre)
  all_goals have HG := Lib.hid hg
  all_goals clear hg
  · go_wp2
    go_ret
    exact ⟨ret_bool (by rw [HB.out, HG.out]; rfl), hE1⟩
  · go_wp2_with fail
    refine (Equal_Int_c _ _ _ _ _ _ _ (H1.out.ext hE1) (H1'.out.ext hE1)).mono ?_
    rintro e w2 ⟨rfl, hx2⟩
    go_wp2
    go_ret
    exact ⟨ret_bool (by rw [HB.out, HG.out]; rfl), hE1.trans hx2⟩

theorem equalTransitions_plain : Plainf Try.prog 137 := plainf_of Try.func137 (by kernel_rfl) (by kernel_rfl)

set_option maxHeartbeats 800000 in
theorem EqualFunc_Tr_c (w : World) (a a' : Option Addr) (c c' : Nat) (l r : List Tr) (h : (tSl tTr).R w l [.slice a l.length c]) (h' : (tSl tTr).R w r [.slice a' r.length c']) :
    Calls Try.prog 136 #[.slice a l.length c, .slice a' r.length c', .func (.func 137) #[] #[]] w fun e w' => e = .returned (.bool (decide (l = r))) ∧ Ext w w' := by
  have hn := R_len h
  have hn' := R_len h'
  obtain ⟨_, _, _, _, hs⟩ := R_sl.1 h
  obtain ⟨_, _, _, _, hs'⟩ := R_sl.1 h'
  clear h h'
  have hf' := equalTransitions_plain
  unfold Plainf at hf'
  by_cases hlen : l.length = r.length
  · have HN := Lib.hid hlen
    clear hlen
    rw [← HN.out]
    go_enter Try.func136, Try.ntmps136
    go_wp2
    go_loopw [17] (fun i wr => ∃ k : Nat, k ≤ l.length ∧ i = .int .i64 k ∧ (∀ j, j < k → nth l j = nth r j) ∧ Ext w wr) (fun i _ => l.length - (intOf i).toNat)
    case atStart => exact ⟨0, Nat.zero_le _, rfl, by omega, Ext.refl _⟩
    case round =>
      obtain ⟨k, hk, rfl, hj, hb⟩ := hrel
      have HJ := Lib.hid hj
      clear hj
      by_cases hlt : k < l.length
      · have hlt' : k < r.length := by have := HN.out; omega
        obtain ⟨b, o, rfl, hbs, hel⟩ := hs.get (by omega)
        obtain ⟨b', o', rfl, hbs', hel'⟩ := hs'.get (by omega)
        obtain ⟨a0, c0, a1, c1, hc0, hc1, hR⟩ := at_Tr ((hel k hlt).ext hb hbs)
        obtain ⟨a0', c0', a1', c1', hc0', hc1', hR'⟩ := at_Tr ((hel' k hlt').ext hb hbs')
        simp only [show tTr.n = 2 from rfl] at hc0 hc1 hc0' hc1'
        have HR := Lib.hid hR
        have HR' := Lib.hid hR'
        have hb1 : b < wr.heap.size := lt_of_cell hc0
        have hb1' : b' < wr.heap.size := lt_of_cell hc0'
        clear hel hel' hR hR'
        go_wp2_with fail
        refine (equalTransitions_c _ _ _ _ _ _ (HR.out.ext (((Ext.refl _).alloc _).alloc _)) _ _ _ _ _ (HR'.out.ext (((Ext.refl _).alloc _).alloc _))).mono ?_
        rintro e w2 ⟨rfl, hx⟩
        have hb2 := hb.trans ((((Ext.refl _).alloc _).alloc _).trans hx)
        cases hq : sameTr (nth l k) (nth r k)
        · have HQ := Lib.hid (ne_of_nth (fun e => by rw [sameTr_iff.2 e] at hq; exact Bool.noConfusion hq))
          clear hq
          go_wp2
          go_ret
          exact ⟨ret_bool (by simp [HQ.out]), hb2⟩
        · have HQ := Lib.hid (sameTr_iff.1 hq)
          clear hq
          go_wp2
          go_roundw
          case rel => exact ⟨k + 1, by omega, by go_num, fun j hj => by by_cases e : j = k; (rw [e]; exact HQ.out); exact HJ.out j (by omega), hb2⟩
          case measure => simp [intOf]; omega
      · obtain rfl : k = l.length := by omega
        have HQ := Lib.hid (list_eq_of_nth HN.out HJ.out)
        go_wp2
        go_ret
        exact ⟨ret_bool (by simp [HQ.out]), hb⟩
  · have hz : ((l.length : Int) != (r.length : Int)) = true := by rw [bne_iff_ne]; omega
    have HQ := Lib.hid (show ¬ l = r from fun e => hlen (by rw [e]))
    clear hlen
    go_enter Try.func136, Try.ntmps136
    go_wp2
    go_ret
    exact ⟨ret_bool (by simp [HQ.out]), Ext.refl _⟩

def eqSTG (x y : Stg) : Bool := decide (x.net.places = y.net.places) && decide (x.net.trs = y.net.trs) && decide (x.signals = y.signals) && decide (x.labels = y.labels) && decide (x.start = y.start)

set_option maxHeartbeats 800000 in
theorem EqualSTG_c (w : World) (a1 : Option Addr) (c1 : Nat) (a2 : Option Addr) (c2 : Nat) (a3 : Option Addr) (c3 : Nat) (x : Stg) (h : tStg.R w x [.int .i64 x.net.places, .slice a1 x.net.trs.length c1, .slice a2 x.signals.length c2, .slice a3 x.labels.length c3, .string x.start])
    (b1 : Option Addr) (d1 : Nat) (b2 : Option Addr) (d2 : Nat) (b3 : Option Addr) (d3 : Nat) (y : Stg) (h' : tStg.R w y [.int .i64 y.net.places, .slice b1 y.net.trs.length d1, .slice b2 y.signals.length d2, .slice b3 y.labels.length d3, .string y.start]) :
    Calls Try.prog 62 #[.agg #[.int .i64 x.net.places, .slice a1 x.net.trs.length c1, .slice a2 x.signals.length c2, .slice a3 x.labels.length c3, .string x.start], .agg #[.int .i64 y.net.places, .slice b1 y.net.trs.length d1, .slice b2 y.signals.length d2, .slice b3 y.labels.length d3, .string y.start]] w
      fun e w' => e = .returned (.bool (eqSTG x y)) ∧ Ext w w' := by
  have HB : Hid (eqSTG x y = (decide (x.net.places = y.net.places) && decide (x.net.trs = y.net.trs) && decide (x.signals = y.signals) && decide (x.labels = y.labels) && decide (x.start = y.start))) := Lib.hid rfl
  obtain ⟨h0, h2, h3, h4⟩ := R_Stg.1 h
  obtain ⟨_, h1⟩ := R_NetD.1 h0
  obtain ⟨h0', h2', h3', h4'⟩ := R_Stg.1 h'
  obtain ⟨_, h1'⟩ := R_NetD.1 h0'
  have H1 := Lib.hid h1
  have H2 := Lib.hid h2
  have H3 := Lib.hid h3
  have H1' := Lib.hid h1'
  have H2' := Lib.hid h2'
  have H3' := Lib.hid h3'
  clear h h' h0 h0' h1 h2 h3 h4 h1' h2' h3' h4'
  by_cases hp : x.net.places = y.net.places
  · have HP := Lib.hid hp
    have hz : (x.net.places == y.net.places) = true := by rw [hp]; simp
    clear hp
    go_enter Try.func62, Try.ntmps62
    go_wp2_with fail
    refine (EqualFunc_Tr_c _ _ _ _ _ _ _ (H1.out.ext (((Ext.refl _).alloc _).alloc _)) (H1'.out.ext (((Ext.refl _).alloc _).alloc _))).mono ?_
    rintro e w1 ⟨rfl, hx1⟩
    have hE1 : Ext w w1 := (((Ext.refl _).alloc _).alloc _).trans hx1
    obtain ⟨hk1, hf1⟩ := hx1.cells
    simp only [World.size_alloc] at hk1 hf1
    cases hg : decide (x.net.trs = y.net.trs)
    all_goals have HG := Lib.hid hg
    all_goals clear hg
    · go_wp2
      go_ret
      exact ⟨ret_bool (by rw [HB.out, HG.out]; simp), hE1⟩
    · go_wp2_with fail
      refine (Equal_Sig_c _ _ _ _ _ _ _ (H2.out.ext hE1) (H2'.out.ext hE1)).mono ?_
      rintro e w2 ⟨rfl, hx2⟩
      have hE2 := hE1.trans hx2
      obtain ⟨hk2, hf2⟩ := (hx1.trans hx2).cells
      simp only [World.size_alloc] at hk2 hf2
      clear hk1 hf1
      cases hg : decide (x.signals = y.signals)
      all_goals have HG2 := Lib.hid hg
      all_goals clear hg
      · go_wp2
        go_ret
        exact ⟨ret_bool (by rw [HB.out, HG2.out]; simp), hE2⟩
      · go_wp2_with fail
        refine (Equal_Lab_c _ _ _ _ _ _ _ (H3.out.ext hE2) (H3'.out.ext hE2)).mono ?_
        rintro e w3 ⟨rfl, hx3⟩
        have hE3 := hE2.trans hx3
        obtain ⟨hk3, hf3⟩ := ((hx1.trans hx2).trans hx3).cells
        simp only [World.size_alloc] at hk3 hf3
        clear hk2 hf2
        cases hg : decide (x.labels = y.labels)
        all_goals have HG3 := Lib.hid hg
        all_goals clear hg
        · go_wp2
          go_ret
          exact ⟨ret_bool (by rw [HB.out, HG3.out]; simp), hE3⟩
        · by_cases hs : x.start = y.start
          · have HS := Lib.hid hs
            have hz : (x.start.toList == y.start.toList) = true := by rw [hs]; simp
            clear hs
            go_wp2
            go_ret
            exact ⟨ret_bool (by rw [HB.out, HG.out, HG2.out, HG3.out]; simp [HP.out, HS.out]), hE3⟩
          · have HS := Lib.hid hs
            have hz : (x.start.toList == y.start.toList) = false := by rw [beq_eq_false_iff_ne]; exact fun e => hs (bytes_ext e)
            clear hs
            go_wp2
            go_ret
            exact ⟨ret_bool (by rw [HB.out]; simp [HS.out]), hE3⟩
  · have HP := Lib.hid hp
    have hz : (x.net.places == y.net.places) = false := by rw [beq_eq_false_iff_ne]; exact hp
    clear hp
    go_enter Try.func62, Try.ntmps62
    go_wp2
    go_ret
    exact ⟨ret_bool (by rw [HB.out]; simp [HP.out]), ((Ext.refl _).alloc _).alloc _⟩

set_option maxRecDepth 20000 in
set_option maxHeartbeats 1600000 in
theorem l2SameNet_c (w : World) (a1 : Option Addr) (c1 : Nat) (x : NetD) (h : tNetD.R w x [.int .i64 x.places, .slice a1 x.trs.length c1])
    (b1 : Option Addr) (d1 : Nat) (y : NetD) (h' : tNetD.R w y [.int .i64 y.places, .slice b1 y.trs.length d1]) :
    Calls Try.prog 133 #[.agg #[.int .i64 x.places, .slice a1 x.trs.length c1], .agg #[.int .i64 y.places, .slice b1 y.trs.length d1]] w
      fun e w' => e = .returned (.bool (decide (x.places = y.places) && decide (x.trs = y.trs))) ∧ Ext w w' := by
  obtain ⟨_, hq⟩ := R_NetD.1 h
  obtain ⟨_, hq'⟩ := R_NetD.1 h'
  have hn := R_len hq
  have hn' := R_len hq'
  obtain ⟨_, _, _, _, hs⟩ := R_sl.1 hq
  obtain ⟨_, _, _, _, hs'⟩ := R_sl.1 hq'
  clear h h' hq hq'
  by_cases hp : x.places = y.places
  · have HP := Lib.hid hp
    have hz : (x.places != y.places) = false := by rw [hp]; simp
    clear hp
    by_cases hlen : x.trs.length = y.trs.length
    · have HN := Lib.hid hlen
      have hz2 : ((x.trs.length : Int) != (y.trs.length : Int)) = false := by rw [hlen]; simp
      clear hlen
      go_enter Try.func133, Try.ntmps133
      go_wp2
      go_loopw [23] (fun i wr => ∃ k : Nat, k ≤ x.trs.length ∧ i = .int .i64 k ∧ (∀ j, j < k → nth x.trs j = nth y.trs j) ∧ Ext ((w.alloc (.cells #[.int .i64 x.places, .slice a1 x.trs.length c1] 53)).alloc (.cells #[.int .i64 y.places, .slice b1 y.trs.length d1] 53)) wr) (fun i _ => x.trs.length - (intOf i).toNat)
      case atStart => exact ⟨0, Nat.zero_le _, rfl, by omega, Ext.refl _⟩
      case round =>
        obtain ⟨k, hk, rfl, hj, hb⟩ := hrel
        have HJ := Lib.hid hj
        have hE : Ext w wr := (((Ext.refl _).alloc _).alloc _).trans hb
        clear hj
        obtain ⟨hk1, hf1⟩ := hb.cells
        simp only [World.size_alloc] at hk1 hf1
        by_cases hlt : k < x.trs.length
        · have hlt' : k < y.trs.length := by have := HN.out; omega
          obtain ⟨b, o, rfl, hbs, hel⟩ := hs.get (by omega)
          obtain ⟨b', o', rfl, hbs', hel'⟩ := hs'.get (by omega)
          obtain ⟨p0, q0, p1, q1, hc0, hc1, hR⟩ := at_Tr ((hel k hlt).ext hE hbs)
          obtain ⟨p0', q0', p1', q1', hc0', hc1', hR'⟩ := at_Tr ((hel' k hlt').ext hE hbs')
          simp only [show tTr.n = 2 from rfl] at hc0 hc1 hc0' hc1'
          have hca : wr.cell? ⟨w.heap.size, 1, none⟩ = some (.slice (some ⟨b, o, none⟩) x.trs.length c1) := by rw [hk1 _ _ (by omega)]; simp
          have hcb : wr.cell? ⟨w.heap.size + 1, 1, none⟩ = some (.slice (some ⟨b', o', none⟩) y.trs.length d1) := by rw [hk1 _ _ (by omega)]; simp
          obtain ⟨hR0, hR1⟩ := R_Tr.1 hR
          obtain ⟨hR0', hR1'⟩ := R_Tr.1 hR'
          have HR0 := Lib.hid hR0
          have HR1 := Lib.hid hR1
          have HR0' := Lib.hid hR0'
          have HR1' := Lib.hid hR1'
          have hu1 := Later.cell hc0
          have hu2 := Later.cell hc1
          have hu3 := Later.cell hc0'
          have hu4 := Later.cell hc1'
          have hu5 := Later.cell hca
          have hu6 := Later.cell hcb
          clear hel hel' hR hR' hR0 hR1 hR0' hR1' hk1 hf1
          have C1 := fun z : Later wr => calls_later (l1Same_c _ _ _ _ _ _ _ (HR0.out.ext (Later.ext z)) (HR0'.out.ext (Later.ext z)))
          have C2 := fun z : Later wr => calls_later (l1Same_c _ _ _ _ _ _ _ (HR1.out.ext (Later.ext z)) (HR1'.out.ext (Later.ext z)))
          go_wp2
          refine wp_region_later (by kernel_rfl) (by kernel_rfl) ?_
          cases hq1 : decide ((nth x.trs k).pre = (nth y.trs k).pre)
          · have HQ : Hid (decide (x.trs = y.trs) = false) := Lib.hid (decide_eq_false (ne_of_nth (k := k) (fun e => by rw [e] at hq1; simp at hq1)))
            simp only [hq1] at C1
            clear hq1
            repeat (go_big_quiet_step (first | with_reducible exact C1 _ | with_reducible exact C2 _))
            refine wpQuiet_nil ?_
            rintro _ ⟨⟨w2, hx⟩, rfl⟩
            have hE2 := hE.trans hx
            clear hu1 hu2 hu3 hu4 hu5 hu6 C1 C2
            go_wp2
            go_ret
            exact ⟨ret_bool (by rw [HQ.out]; simp), hE2⟩
          · cases hq2 : decide ((nth x.trs k).post = (nth y.trs k).post)
            · have HQ : Hid (decide (x.trs = y.trs) = false) := Lib.hid (decide_eq_false (ne_of_nth (k := k) (fun e => by rw [e] at hq2; simp at hq2)))
              simp only [hq1] at C1
              simp only [hq2] at C2
              clear hq1 hq2
              repeat (go_big_quiet_step (first | with_reducible exact C1 _ | with_reducible exact C2 _))
              refine wpQuiet_nil ?_
              rintro _ ⟨⟨w2, hx⟩, rfl⟩
              have hE2 := hE.trans hx
              clear hu1 hu2 hu3 hu4 hu5 hu6 C1 C2
              go_wp2
              go_ret
              exact ⟨ret_bool (by rw [HQ.out]; simp), hE2⟩
            · have HQ : Hid (nth x.trs k = nth y.trs k) := Lib.hid (sameTr_iff.1 (by simp only [sameTr, hq1, hq2]; rfl))
              simp only [hq1] at C1
              simp only [hq2] at C2
              clear hq1 hq2
              repeat (go_big_quiet_step (first | with_reducible exact C1 _ | with_reducible exact C2 _))
              refine wpQuiet_nil ?_
              rintro _ ⟨⟨w2, hx⟩, rfl⟩
              have hE2 := hE.trans hx
              clear hu1 hu2 hu3 hu4 hu5 hu6 C1 C2
              go_wp2
              go_roundw
              case rel => exact ⟨k + 1, by omega, by go_num, fun j hj => by by_cases e : j = k; (rw [e]; exact HQ.out); exact HJ.out j (by omega), hb.trans hx⟩
              case measure => simp [intOf]; omega
        · obtain rfl : k = x.trs.length := by omega
          have HQ := Lib.hid (list_eq_of_nth HN.out HJ.out)
          go_wp2
          go_ret
          exact ⟨ret_bool (by simp [HQ.out, HP.out]), hE⟩
    · have hz2 : ((x.trs.length : Int) != (y.trs.length : Int)) = true := by rw [bne_iff_ne]; omega
      have HQ := Lib.hid (show ¬ x.trs = y.trs from fun e => hlen (by rw [e]))
      clear hlen
      go_enter Try.func133, Try.ntmps133
      go_wp2
      go_ret
      exact ⟨ret_bool (by simp [HQ.out]), ((Ext.refl _).alloc _).alloc _⟩
  · have HP := Lib.hid hp
    have hz : (x.places != y.places) = true := by rw [bne_iff_ne]; exact hp
    clear hp
    go_enter Try.func133, Try.ntmps133
    go_wp2
    go_ret
    exact ⟨ret_bool (by simp [HP.out]), ((Ext.refl _).alloc _).alloc _⟩
end Go.Proofs.Ytboimpalblicnaa
