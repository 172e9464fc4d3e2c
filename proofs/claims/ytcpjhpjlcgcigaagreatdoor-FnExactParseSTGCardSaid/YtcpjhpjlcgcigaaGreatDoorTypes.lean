/- The types of the program as Lean structures, and how they lie in memory. No condition. -/
import Derived.Test.YtcpjhpjlcgcigaaGreatDoorLibb
set_option linter.unusedSimpArgs false
set_option linter.unusedVariables false
namespace Go.Proofs.YtcpjhpjlcgcigaaGreatDoor
open Go.ChangeShapes Go.WideShapes Go.ChangeAt Go.RowKit
structure Tr where
  pre : (List Int)
  post : (List Int)
deriving Inhabited, DecidableEq
def tTr : Ty Tr := tIso (tPair (tSl tInt) (tSl tInt)) (fun x => (x.pre, x.post))
theorem R_Tr {w : World} {x : Tr} {c0 c1 : Value} : tTr.R w x [c0, c1] ↔ (tSl tInt).R w x.pre [c0] ∧ (tSl tInt).R w x.post [c1] :=
  ⟨fun h => ⟨(R_pair.1 h).1, (R_pair.1 h).2⟩, fun ⟨h0, h1⟩ => R_pair.2 ⟨h0, h1⟩⟩
theorem shape_Tr {w : World} {x : Tr} {cs : List Value} (h : tTr.R w x cs) : ∃ a0 c0 a1 c1, cs = [.slice a0 x.pre.length c0, .slice a1 x.post.length c1] :=
  have hn : cs.length = 2 := by obtain ⟨bs, h⟩ := h; exact tTr.len h
  match cs, hn with
  | [c0, c1], _ => by
    obtain ⟨h0, h1⟩ := R_Tr.1 h
    obtain ⟨_, a0, c0', eh0, _⟩ := h0
    obtain ⟨_, a1, c1', eh1, _⟩ := h1
    simp only [List.cons.injEq, and_true] at eh0 eh1
    refine ⟨a0, c0', a1, c1', ?_⟩
    simp only [*]
theorem at_Tr {w : World} {b o : Nat} {x : Tr} (h : tTr.at w b o x) : ∃ a0 c0 a1 c1, w.cell? ⟨b, o, none⟩ = some (.slice a0 x.pre.length c0) ∧ w.cell? ⟨b, o + 1, none⟩ = some (.slice a1 x.post.length c1) ∧ tTr.R w x [.slice a0 x.pre.length c0, .slice a1 x.post.length c1] := by
  obtain ⟨cs, hR, hl, hc⟩ := h.cells
  obtain ⟨a0, c0, a1, c1, rfl⟩ := shape_Tr hR
  exact ⟨a0, c0, a1, c1, by simpa using hc 0 (by decide), by simpa using hc 1 (by decide), hR⟩
structure NetD where
  places : Int
  trs : (List Tr)
deriving Inhabited, DecidableEq
def tNetD : Ty NetD := tIso (tPair tInt (tSl tTr)) (fun x => (x.places, x.trs))
theorem R_NetD {w : World} {x : NetD} {c0 c1 : Value} : tNetD.R w x [c0, c1] ↔ tInt.R w x.places [c0] ∧ (tSl tTr).R w x.trs [c1] :=
  ⟨fun h => ⟨(R_pair.1 h).1, (R_pair.1 h).2⟩, fun ⟨h0, h1⟩ => R_pair.2 ⟨h0, h1⟩⟩
theorem shape_NetD {w : World} {x : NetD} {cs : List Value} (h : tNetD.R w x cs) : ∃ a1 c1, cs = [.int .i64 x.places, .slice a1 x.trs.length c1] :=
  have hn : cs.length = 2 := by obtain ⟨bs, h⟩ := h; exact tNetD.len h
  match cs, hn with
  | [c0, c1], _ => by
    obtain ⟨h0, h1⟩ := R_NetD.1 h
    obtain ⟨_, _, eh0, _⟩ := h0
    obtain ⟨_, a1, c1', eh1, _⟩ := h1
    simp only [List.cons.injEq, and_true] at eh0 eh1
    refine ⟨a1, c1', ?_⟩
    simp only [*]
theorem at_NetD {w : World} {b o : Nat} {x : NetD} (h : tNetD.at w b o x) : ∃ a1 c1, w.cell? ⟨b, o, none⟩ = some (.int .i64 x.places) ∧ w.cell? ⟨b, o + 1, none⟩ = some (.slice a1 x.trs.length c1) ∧ tNetD.R w x [.int .i64 x.places, .slice a1 x.trs.length c1] := by
  obtain ⟨cs, hR, hl, hc⟩ := h.cells
  obtain ⟨a1, c1, rfl⟩ := shape_NetD hR
  exact ⟨a1, c1, by simpa using hc 0 (by decide), by simpa using hc 1 (by decide), hR⟩
structure Sig where
  name : ByteArray
  kind : Int
deriving Inhabited, DecidableEq
def tSig : Ty Sig := tIso (tPair tStr tInt) (fun x => (x.name, x.kind))
theorem R_Sig {w : World} {x : Sig} {c0 c1 : Value} : tSig.R w x [c0, c1] ↔ tStr.R w x.name [c0] ∧ tInt.R w x.kind [c1] :=
  ⟨fun h => ⟨(R_pair.1 h).1, (R_pair.1 h).2⟩, fun ⟨h0, h1⟩ => R_pair.2 ⟨h0, h1⟩⟩
theorem shape_Sig {w : World} {x : Sig} {cs : List Value} (h : tSig.R w x cs) : cs = [.string x.name, .int .i64 x.kind] :=
  have hn : cs.length = 2 := by obtain ⟨bs, h⟩ := h; exact tSig.len h
  match cs, hn with
  | [c0, c1], _ => by
    obtain ⟨h0, h1⟩ := R_Sig.1 h
    obtain ⟨_, _, eh0, _⟩ := h0
    obtain ⟨_, _, eh1, _⟩ := h1
    simp only [List.cons.injEq, and_true] at eh0 eh1
    skip
    simp only [*]
theorem at_Sig {w : World} {b o : Nat} {x : Sig} (h : tSig.at w b o x) : ∃ (_ : True), w.cell? ⟨b, o, none⟩ = some (.string x.name) ∧ w.cell? ⟨b, o + 1, none⟩ = some (.int .i64 x.kind) ∧ tSig.R w x [.string x.name, .int .i64 x.kind] := by
  obtain ⟨cs, hR, hl, hc⟩ := h.cells
  obtain rfl := shape_Sig hR
  exact ⟨trivial, by simpa using hc 0 (by decide), by simpa using hc 1 (by decide), hR⟩
structure Lab where
  sig : Int
  up : Bool
deriving Inhabited, DecidableEq
def tLab : Ty Lab := tIso (tPair tInt tBool) (fun x => (x.sig, x.up))
theorem R_Lab {w : World} {x : Lab} {c0 c1 : Value} : tLab.R w x [c0, c1] ↔ tInt.R w x.sig [c0] ∧ tBool.R w x.up [c1] :=
  ⟨fun h => ⟨(R_pair.1 h).1, (R_pair.1 h).2⟩, fun ⟨h0, h1⟩ => R_pair.2 ⟨h0, h1⟩⟩
theorem shape_Lab {w : World} {x : Lab} {cs : List Value} (h : tLab.R w x cs) : cs = [.int .i64 x.sig, .bool x.up] :=
  have hn : cs.length = 2 := by obtain ⟨bs, h⟩ := h; exact tLab.len h
  match cs, hn with
  | [c0, c1], _ => by
    obtain ⟨h0, h1⟩ := R_Lab.1 h
    obtain ⟨_, _, eh0, _⟩ := h0
    obtain ⟨_, _, eh1⟩ := h1
    simp only [List.cons.injEq, and_true] at eh0 eh1
    skip
    simp only [*]
theorem at_Lab {w : World} {b o : Nat} {x : Lab} (h : tLab.at w b o x) : ∃ (_ : True), w.cell? ⟨b, o, none⟩ = some (.int .i64 x.sig) ∧ w.cell? ⟨b, o + 1, none⟩ = some (.bool x.up) ∧ tLab.R w x [.int .i64 x.sig, .bool x.up] := by
  obtain ⟨cs, hR, hl, hc⟩ := h.cells
  obtain rfl := shape_Lab hR
  exact ⟨trivial, by simpa using hc 0 (by decide), by simpa using hc 1 (by decide), hR⟩
structure Stg where
  net : NetD
  signals : (List Sig)
  labels : (List Lab)
  start : ByteArray
deriving Inhabited, DecidableEq
def tStg : Ty Stg := tIso (tPair tNetD (tPair (tSl tSig) (tPair (tSl tLab) tStr))) (fun x => (x.net, x.signals, x.labels, x.start))
theorem R_Stg {w : World} {x : Stg} {c0 c1 c2 c3 c4 : Value} : tStg.R w x [c0, c1, c2, c3, c4] ↔ tNetD.R w x.net [c0, c1] ∧ (tSl tSig).R w x.signals [c2] ∧ (tSl tLab).R w x.labels [c3] ∧ tStr.R w x.start [c4] :=
  ⟨fun h => ⟨(R_pair.1 h).1, (R_pair.1 (R_pair.1 h).2).1, (R_pair.1 (R_pair.1 (R_pair.1 h).2).2).1, (R_pair.1 (R_pair.1 (R_pair.1 h).2).2).2⟩, fun ⟨h0, h1, h2, h3⟩ => R_pair.2 ⟨h0, R_pair.2 ⟨h1, R_pair.2 ⟨h2, h3⟩⟩⟩⟩
theorem shape_Stg {w : World} {x : Stg} {cs : List Value} (h : tStg.R w x cs) : ∃ a1 c1 a2 c2 a3 c3, cs = [.int .i64 x.net.places, .slice a1 x.net.trs.length c1, .slice a2 x.signals.length c2, .slice a3 x.labels.length c3, .string x.start] :=
  have hn : cs.length = 5 := by obtain ⟨bs, h⟩ := h; exact tStg.len h
  match cs, hn with
  | [c0, c1, c2, c3, c4], _ => by
    obtain ⟨h0, h1, h2, h3⟩ := R_Stg.1 h
    obtain ⟨a1, c1', eh0⟩ := shape_NetD h0
    obtain ⟨_, a2, c2', eh1, _⟩ := h1
    obtain ⟨_, a3, c3', eh2, _⟩ := h2
    obtain ⟨_, _, eh3, _⟩ := h3
    simp only [List.cons.injEq, and_true] at eh0 eh1 eh2 eh3
    refine ⟨a1, c1', a2, c2', a3, c3', ?_⟩
    simp only [*]
theorem at_Stg {w : World} {b o : Nat} {x : Stg} (h : tStg.at w b o x) : ∃ a1 c1 a2 c2 a3 c3, w.cell? ⟨b, o, none⟩ = some (.int .i64 x.net.places) ∧ w.cell? ⟨b, o + 1, none⟩ = some (.slice a1 x.net.trs.length c1) ∧ w.cell? ⟨b, o + 2, none⟩ = some (.slice a2 x.signals.length c2) ∧ w.cell? ⟨b, o + 3, none⟩ = some (.slice a3 x.labels.length c3) ∧ w.cell? ⟨b, o + 4, none⟩ = some (.string x.start) ∧ tStg.R w x [.int .i64 x.net.places, .slice a1 x.net.trs.length c1, .slice a2 x.signals.length c2, .slice a3 x.labels.length c3, .string x.start] := by
  obtain ⟨cs, hR, hl, hc⟩ := h.cells
  obtain ⟨a1, c1, a2, c2, a3, c3, rfl⟩ := shape_Stg hR
  exact ⟨a1, c1, a2, c2, a3, c3, by simpa using hc 0 (by decide), by simpa using hc 1 (by decide), by simpa using hc 2 (by decide), by simpa using hc 3 (by decide), by simpa using hc 4 (by decide), hR⟩
def szInts (l : List Int) : Nat := l.length
def szStrs (l : List ByteArray) : Nat := l.length + (l.map fun s => s.size).sum
def szLabs (l : List Lab) : Nat := l.length
def szTr (x : Tr) : Nat := szInts x.pre + szInts x.post
def szTrs (l : List Tr) : Nat := l.length + (l.map fun x => szTr x).sum
def szNetD (x : NetD) : Nat := szTrs x.trs
def szNetDs (l : List NetD) : Nat := l.length + (l.map fun x => szNetD x).sum
def szSig (x : Sig) : Nat := x.name.size
def szSigs (l : List Sig) : Nat := l.length + (l.map fun x => szSig x).sum
def szStg (x : Stg) : Nat := szNetD x.net + szSigs x.signals + szLabs x.labels + x.start.size
def szStgs (l : List Stg) : Nat := l.length + (l.map fun x => szStg x).sum
end Go.Proofs.YtcpjhpjlcgcigaaGreatDoor
