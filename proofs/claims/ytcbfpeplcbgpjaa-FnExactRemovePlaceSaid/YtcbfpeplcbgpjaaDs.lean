/- The structures as plain data, and that they lie so. No condition. -/
import Derived.Test.YtcbfpeplcbgpjaaTypes
import Derived.Test.YtcbfpeplcbgpjaaAbsS
set_option linter.unusedSimpArgs false
set_option linter.unusedVariables false
namespace Go.Proofs.Ytcbfpeplcbgpjaa
open Go.ChangeShapes Go.WideShapes Go.ChangeAt Go.RowKit
def dTr (x : Tr) : List D := [.sh 1 (ints x.pre), .sh 1 (ints x.post)]
theorem br_Tr : Br tTr dTr := br_iso (br_pair (br_sl br_int) (br_sl br_int)) (fun x : Tr => (x.pre, x.post))
theorem len_dTr (l : List Tr) : (l.map dTr).length = l.length := by simp
def dNetD (x : NetD) : List D := [.lit (.int .i64 x.places), .sh 2 (x.trs.map dTr)]
theorem br_NetD : Br tNetD dNetD := br_iso (br_pair br_int (br_sl br_Tr)) (fun x : NetD => (x.places, x.trs))
theorem len_dNetD (l : List NetD) : (l.map dNetD).length = l.length := by simp
def dSig (x : Sig) : List D := [.lit (.string x.name), .lit (.int .i64 x.kind)]
theorem br_Sig : Br tSig dSig := br_iso (br_pair br_str br_int) (fun x : Sig => (x.name, x.kind))
theorem len_dSig (l : List Sig) : (l.map dSig).length = l.length := by simp
def dLab (x : Lab) : List D := [.lit (.int .i64 x.sig), .lit (.bool x.up)]
theorem br_Lab : Br tLab dLab := br_iso (br_pair br_int br_bool) (fun x : Lab => (x.sig, x.up))
theorem len_dLab (l : List Lab) : (l.map dLab).length = l.length := by simp
def dStg (x : Stg) : List D := [.lit (.int .i64 x.net.places), .sh 2 (x.net.trs.map dTr), .sh 2 (x.signals.map dSig), .sh 2 (x.labels.map dLab), .lit (.string x.start)]
theorem br_Stg : Br tStg dStg := br_iso (br_pair br_NetD (br_pair (br_sl br_Sig) (br_pair (br_sl br_Lab) br_str))) (fun x : Stg => (x.net, x.signals, x.labels, x.start))
theorem len_dStg (l : List Stg) : (l.map dStg).length = l.length := by simp
def dArcD (x : ArcD) : List D := [.lit (.int .i64 x.src), .lit (.int .i64 x.sig), .lit (.bool x.up), .lit (.int .i64 x.dst)]
theorem br_ArcD : Br tArcD dArcD := br_iso (br_pair br_int (br_pair br_int (br_pair br_bool br_int))) (fun x : ArcD => (x.src, x.sig, x.up, x.dst))
theorem len_dArcD (l : List ArcD) : (l.map dArcD).length = l.length := by simp
def dSGraph (x : SGraph) : List D := [.sh 2 (x.signals.map dSig), .sh 1 (strs x.codes), .sh 4 (x.arcs.map dArcD)]
theorem br_SGraph : Br tSGraph dSGraph := br_iso (br_pair (br_sl br_Sig) (br_pair (br_sl br_str) (br_sl br_ArcD))) (fun x : SGraph => (x.signals, x.codes, x.arcs))
theorem len_dSGraph (l : List SGraph) : (l.map dSGraph).length = l.length := by simp
def dCond (x : Cond) : List D := [.lit (.int .i64 x.place), .lit (.int .i64 x.by_)]
theorem br_Cond : Br tCond dCond := br_iso (br_pair br_int br_int) (fun x : Cond => (x.place, x.by_))
theorem len_dCond (l : List Cond) : (l.map dCond).length = l.length := by simp
def dEv (x : Ev) : List D := [.lit (.int .i64 x.t), .sh 1 (ints x.pre)]
theorem br_Ev : Br tEv dEv := br_iso (br_pair br_int (br_sl br_int)) (fun x : Ev => (x.t, x.pre))
theorem len_dEv (l : List Ev) : (l.map dEv).length = l.length := by simp
def dUnf (x : Unf) : List D := [.sh 2 (x.conds.map dCond), .sh 2 (x.events.map dEv)]
theorem br_Unf : Br tUnf dUnf := br_iso (br_pair (br_sl br_Cond) (br_sl br_Ev)) (fun x : Unf => (x.conds, x.events))
theorem len_dUnf (l : List Unf) : (l.map dUnf).length = l.length := by simp
end Go.Proofs.Ytcbfpeplcbgpjaa
