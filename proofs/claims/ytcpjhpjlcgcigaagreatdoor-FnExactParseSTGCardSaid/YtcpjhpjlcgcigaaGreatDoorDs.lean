/- The structures as plain data, and that they lie so. No condition. -/
import Derived.Test.YtcpjhpjlcgcigaaGreatDoorTypes
import Derived.Test.YtcpjhpjlcgcigaaGreatDoorAbsS
set_option linter.unusedSimpArgs false
set_option linter.unusedVariables false
namespace Go.Proofs.YtcpjhpjlcgcigaaGreatDoor
open Go.ChangeShapes Go.WideShapes Go.ChangeAt Go.RowKit
def dTr (x : Tr) : List D := [.sh 1 (ints x.pre), .sh 1 (ints x.post)]
theorem br_Tr : Br tTr dTr := br_iso (br_pair (br_sl br_int) (br_sl br_int)) (fun x : Tr => (x.pre, x.post))
theorem len_dTr (l : List Tr) : (l.map dTr).length = l.length := by simp
def dNetD (x : NetD) : List D := [.lit (.int .i64 x.places), .sh 2 (x.trs.map dTr)]
theorem br_NetD : Br tNetD dNetD := br_iso (br_pair br_int (br_sl br_Tr)) (fun x : NetD => (x.places, x.trs))
theorem len_dNetD (l : List NetD) : (l.map dNetD).length = l.length := by simp
def dSig (x : Sig) : List D := [.lit (.string x.name), .lit (.int .i64 x.kind)]
theorem br_Sig : Br tSig dSig := br_iso (br_pair br_str br_int) (fun x : Sig => (x.name, x.kind))
theorem len_dSig (l : List Sig) : (l.map dSig).length = l.length := by simp
def dLab (x : Lab) : List D := [.lit (.int .i64 x.sig), .lit (.bool x.up)]
theorem br_Lab : Br tLab dLab := br_iso (br_pair br_int br_bool) (fun x : Lab => (x.sig, x.up))
theorem len_dLab (l : List Lab) : (l.map dLab).length = l.length := by simp
def dStg (x : Stg) : List D := [.lit (.int .i64 x.net.places), .sh 2 (x.net.trs.map dTr), .sh 2 (x.signals.map dSig), .sh 2 (x.labels.map dLab), .lit (.string x.start)]
theorem br_Stg : Br tStg dStg := br_iso (br_pair br_NetD (br_pair (br_sl br_Sig) (br_pair (br_sl br_Lab) br_str))) (fun x : Stg => (x.net, x.signals, x.labels, x.start))
theorem len_dStg (l : List Stg) : (l.map dStg).length = l.length := by simp
end Go.Proofs.YtcpjhpjlcgcigaaGreatDoor
