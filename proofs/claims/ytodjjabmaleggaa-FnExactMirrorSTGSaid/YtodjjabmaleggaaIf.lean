/- Nets and STGs that are handed back if they are right. No condition. -/
import Derived.Test.YtodjjabmaleggaaRet
import Derived.Test.YtodjjabmaleggaaNetX
import Derived.Test.YtodjjabmaleggaaNet
import Derived.Deep.MidRow
import Derived.Laws.ResultCell
set_option linter.unusedSimpArgs false
set_option linter.unusedVariables false
set_option maxHeartbeats 2000000
namespace Go.Proofs.Ytodjjabmaleggaa
open Go.ChangeShapes Go.WideShapes Go.ChangeAt Go.RowKit

theorem loadVar_tab {P : Program} {tab : Nat → Option TI} (hT : TabOk P tab) {T : TypeId} {k : TK} {size bytes : Nat} {zero : List Value} (ht : tab T = some ⟨k, true, size, bytes, zero⟩) (w : World) (b : Nat) (cs : List Value) (hs : cs.length = size) (hc : w.rangeAt b 0 cs) : (loadVar T ⟨b, 0, none⟩).run P w = .ok (.agg cs.toArray) w := by
  obtain ⟨inf, td, z, h1, h2, h3, h4, h5, h6, _⟩ := hT.get ht
  refine run_loadVar_mid w b 0 T cs td hc h2 ?_ (by rw [h1, hs]; simp [h6])
  clear h1 h2 h3 h4 hc
  cases td <;> first | rfl | (simp [aggDesc] at h5)

theorem netIf_bad (x : NetD) (hg : goodNet x = false) : Fn Try.prog 75 [.agg (dNetD x)] (.tup [.agg [.lit (.int .i64 0), .nil], .lit (.bool false)]) [] := by
  refine Fn_ofC tabOk Try.func75 rfl (by kernel_rfl) rfl rfl ?_
  intro w0 A hin
  have hgood := IsValidNet_f x
  rw [hg] at hgood
  repeat' (first | refine goZ ?_ | refine R_callZ rfl (hgood) rfl rfl rfl ?_ | refine R_callvZ rfl (hgood) rfl rfl rfl rfl ?_ | refine D_callZ rfl (hgood) rfl rfl rfl ?_ | ((first | refine R_cond rfl (fun hq => ?_) fun hq => ?_ | refine R_guardT rfl rfl rfl (fun hq => ?_) fun hq => ?_ | refine R_guardF rfl rfl rfl (fun hq => ?_) fun hq => ?_ | refine D_guardT rfl rfl rfl (fun hq => ?_) fun hq => ?_ | refine D_guardF rfl rfl rfl (fun hq => ?_) fun hq => ?_) <;> (try rw [hq]) <;> first | have hp := of_decide_eq_true hq | have hp := of_decide_eq_false hq | have hp := of_decide_eq_false (not_t hq) | have hp := of_decide_eq_true (not_f hq) | have hp := hq))
  exact .r ⟨_, [], rfl, ⟨⟨rfl, trivial, trivial⟩, rfl, trivial⟩, trivial, List.nodup_nil⟩

theorem netIf_id (x : NetD) (hg : goodNet x = true) : FnId Try.prog 75 [.agg (dNetD x)] := by
  refine ⟨plain_of Try.func75 (by kernel_rfl) (by kernel_rfl), fun w u h => ?_⟩
  obtain ⟨u', e, h1⟩ := vxs_one h
  cases e
  obtain ⟨us, rfl, h2⟩ := h1.agg_inv
  have hR := br_NetD.of_vxs rfl h2
  obtain ⟨a, c, rfl⟩ := shape_NetD hR
  clear h h1 h2
  show Calls Try.prog 75 #[.agg #[.int .i64 x.places, .slice a x.trs.length c]] w _
  have hE0 : Ext w ((w.alloc (.cells #[.int .i64 x.places, .slice a x.trs.length c] 28)).alloc (.cells #[.int .i64 0, .slice none 0 0] 28)) := ((Ext.refl w).alloc _).alloc _
  go_enter Try.func75, Try.ntmps75
  go_wp2_with fail
  refine (IsValidNet_c _ a c x (hR.ext hE0)).mono ?_
  rintro e w1 ⟨rfl, hx⟩
  rw [hg]
  obtain ⟨hk, hf⟩ := hx.cells
  simp only [World.size_alloc] at hk hf

  have hc0 : w1.cell? ⟨w.heap.size + 1, 0, none⟩ = some (.int .i64 0) := by rw [hk _ _ (by omega)]; simp
  have hc1 : w1.cell? ⟨w.heap.size + 1, 1, none⟩ = some (.slice none 0 0) := by rw [hk _ _ (by omega)]; simp
  go_wp2
  refine bodyPost_ret (v := .tuple #[.agg #[.int .i64 x.places, .slice a x.trs.length c], .bool true]) ?_ rfl ⟨rfl, Ext.setCell (Ext.setCell (hE0.trans hx) (by simp) _) (by simp) _⟩
  rw [results_cell_tmp rfl]
  have hld := loadVar_tab (P := Try.prog) tabOk (T := 28) rfl ((w1.setCell ⟨w.heap.size + 1, 0, none⟩ (.int .i64 x.places)).setCell ⟨w.heap.size + 1, 1, none⟩ (.slice a x.trs.length c)) (w.heap.size + 1) [.int .i64 x.places, .slice a x.trs.length c] rfl (by
    intro j v hv
    match j with
    | 0 =>
      simp at hv; subst hv; simp only [Nat.zero_add]
      exact (World.cell?_setCell_other _ _ _ _ (by simp)).trans (World.cell?_setCell_same _ _ _ hc0)
    | 1 =>
      simp at hv; subst hv; simp only [Nat.zero_add]
      exact World.cell?_setCell_same _ _ _ (u := .slice none 0 0) ((World.cell?_setCell_other _ _ _ _ (by simp)).trans hc1)
    | j + 2 => simp at hv)
  simp [asAddr, Result.andThen, hld]
end Go.Proofs.Ytodjjabmaleggaa
