/- Symbolic states: what an operation that only reckons or reads yields, all of them in one function. No condition. -/
import Derived.Test.YtidfmgahnmpcdaaAbsD
set_option linter.unusedSimpArgs false
set_option linter.unusedVariables false
namespace Go.Proofs.Ytidfmgahnmpcdaa
open Go.ChangeShapes Go.WideShapes Go.ChangeAt Go.RowKit

def forceK {α : Type} : D → (D → Option α) → Option α
  | .no, _ => none
  | .lit v, k => k (.lit v)
  | .nil, k => k .nil
  | .sh n xs, k => k (.sh n xs)
  | .own i, k => k (.own i)
  | .vec i len, k => k (.vec i len)
  | .ptr i o, k => k (.ptr i o)
  | .eptr i n j o, k => k (.eptr i n j o)
  | .sptr ds, k => k (.sptr ds)
  | .agg ds, k => k (.agg ds)
  | .tup ds, k => k (.tup ds)
  | .fn f ds, k => k (.fn f ds)
  | .old w A d, k => k (.old w A d)
  | .val v, k => k (.val v)
theorem forceK_eq {α : Type} {d : D} {k : D → Option α} {r : α} (h : forceK d k = some r) : k d = some r := by cases d <;> first | exact h | (simp [forceK] at h)
def mapK {α : Type} (ρ : Operand → D) : List Operand → (List D → Option α) → Option α
  | [], k => k []
  | x :: l, k => forceK (ρ x) fun d => mapK ρ l fun l' => k (d :: l')
theorem mapK_eq {α : Type} {ρ : Operand → D} : ∀ {l : List Operand} {k : List D → Option α} {r : α}, mapK ρ l k = some r → k (l.map ρ) = some r
  | [], _, _, h => h
  | x :: l, k, r, h => by
    have := mapK_eq (forceK_eq h)
    simpa using this
/-- Cells written over cells. -/
def putL {β : Type} : Nat → List β → List β → List β
  | _, [], l => l
  | _, _ :: _, [] => []
  | 0, d :: ds, _ :: l => d :: putL 0 ds l
  | n + 1, ds, c :: l => c :: putL n ds l
def putK {α : Type} : Nat → List D → List D → (List D → Option α) → Option α
  | _, [], l, k => k l
  | _, _ :: _, [], _ => none
  | 0, d :: ds, _ :: l, k => putK 0 ds l fun l' => k (d :: l')
  | n + 1, ds, c :: l, k => putK n ds l fun l' => k (c :: l')
theorem putK_eq {α : Type} : ∀ (n : Nat) (ds l : List D) {k : List D → Option α} {r : α}, putK n ds l k = some r → k (putL n ds l) = some r ∧ n + ds.length ≤ max l.length n
  | n, [], l, k, r, h => by
    cases n <;> cases l <;> simp only [putK] at h <;> simp only [putL] <;> exact ⟨h, by simp; try omega⟩
  | n, d :: ds, [], k, r, h => by cases n <;> simp [putK] at h
  | 0, d :: ds, c :: l, k, r, h => by
    have := putK_eq 0 ds l h
    exact ⟨this.1, by have := this.2; simp at this ⊢; omega⟩
  | n + 1, d :: ds, c :: l, k, r, h => by
    have := putK_eq n (d :: ds) l h
    exact ⟨this.1, by have := this.2; simp at this ⊢; omega⟩

def cellsD : D → Option (List D)
  | .agg ds => some ds
  | .lit v => some [.lit v]
  | .nil => some [.nil]
  | .sh n xs => some [.sh n xs]
  | .own i => some [.own i]
  | _ => none

def buildK {α : Type} (ρ : Operand → D) (fs : List (Nat × Nat)) : List (Nat × Operand) → List D → (List D → Option α) → Option α
  | [], l, k => k l
  | (i, x) :: r, l, k => match fs[i]? with
    | some (o, z + 1) => match cellsD (ρ x) with
      | some ds => match Nat.beq ds.length (z + 1) with
        | true => putK o ds l fun l' => buildK ρ fs r l' k
        | false => none
      | none => none
    | _ => none

def constK {α : Type} : List Value → (List D → Option α) → Option α
  | [], k => k []
  | v :: l, k => forceK (constD v) fun d => constK l fun l' => k (d :: l')

/-- A byte of a string. -/
def bAt (s : ByteArray) (i : Int) : Int := ((s[i.toNat]?).getD 0).toNat

def lenD (heap : List Blk) : D → Option Int
  | .lit (.string s) => some s.size
  | .nil => some 0
  | .sh _ xs => some xs.length
  | .own i => match heap[i]? with
    | some (.arr _ _ xs _) => some xs.length
    | _ => none
  | .old _ _ (.sh _ xs) => some xs.length
  | _ => none

def minmaxD (mx : Bool) : D → D → Option (Prop × D)
  | .lit (.int .i64 a), .lit (.int .i64 b) => match mx with | true => some (True, .lit (.int .i64 (max a b))) | false => some (True, .lit (.int .i64 (min a b)))
  | _, _ => none
def partD (agg : Bool) (size : Nat) (ds : List D) : Option (Prop × D) :=
  match agg with
  | true => takeK size ds fun l => some (True, .agg l)
  | false => match ds with
    | d :: _ => forceK d fun d => some (True, d)
    | [] => none
def loadD (heap : List Blk) (agg : Bool) (size : Nat) : D → Option (Prop × D)
  | .sptr ds => partD agg size ds
  | .ptr i o => match heap[i]? with
    | some (.cells _ ds) => dropK o ds fun ds => partD agg size ds
    | _ => none
  | _ => none

def fieldPtr (off : Nat) : D → Option (Prop × D)
  | .ptr i o => some (True, .ptr i (o + off))
  | .eptr i n j o => some (True, .eptr i n j (o + off))
  | .sptr ds => dropK off ds fun ds => some (True, .sptr ds)
  | _ => none

def pickD : D → D → D → Option (Prop × D)
  | .lit (.bool c), .lit (.bool a), .lit (.bool b) => some (True, .lit (.bool (bif c then a else b)))
  | .lit (.bool c), a, b => match c with | true => forceK a fun d => some (True, d) | false => forceK b fun d => some (True, d)
  | _, _, _ => none

def lenOp (tab : Nat → Option TI) (heap : List Blk) (p : D) (t : TypeId) : Option (Prop × D) :=
  match tab t with
    | some ⟨.str, _, _, _, _⟩ => match p with
      | .lit (.string s) => some (True, .lit (.int .i64 s.size))
      | _ => none
    | some ⟨.sl _, _, _, _, _⟩ => match p with
      | .lit _ => none
      | d => match lenD heap d with
        | some n => some (True, .lit (.int .i64 n))
        | none => none
    | _ => none

def idxOwn (tab : Nat → Option TI) (heap : List Blk) (t : TypeId) (p q : D) : Option (Prop × D) :=
  match p with
  | .own k => match tab t, q with
    | some ⟨.sl e, _, _, _, _⟩, .lit (.int .i64 j) => match heap[k]?, tab e with
      | some (.arr _ n xs _), some ⟨_, _, size, _, _⟩ => match Nat.beq n size with
        | true => some (0 ≤ j ∧ j < xs.length, .eptr k n j 0)
        | false => none
      | _, _ => none
    | _, _ => none
  | _ => none

/-- The bounds of a part of a slice or string. -/
def boundsK (ρ : Operand → D) (len : Int) (lo hi : Option Operand) (f0 : D) (f1 f2 : Int → D) (f3 : Int → Int → D) : Option (Prop × D) :=
  match lo, hi with
  | none, none => some (True, f0)
  | none, some y => match ρ y with
    | .lit (.int .i64 h) => some (0 ≤ h ∧ h ≤ len, f1 h)
    | _ => none
  | some x, none => match ρ x with
    | .lit (.int .i64 l) => some (0 ≤ l ∧ l ≤ len, f2 l)
    | _ => none
  | some x, some y => match ρ x, ρ y with
    | .lit (.int .i64 l), .lit (.int .i64 h) => some (0 ≤ l ∧ l ≤ h ∧ h ≤ len, f3 l h)
    | _, _ => none
def sliceD (tab : Nat → Option TI) (ρ : Operand → D) (t : TypeId) (x : Operand) (lo hi mx : Option Operand) : Option (Prop × D) :=
  match mx with
  | some _ => none
  | none => match tab t, ρ x with
    | some ⟨.str, _, _, _, _⟩, .lit (.string s) => boundsK ρ s.size lo hi (.lit (.string s)) (fun h => .lit (.string (s.extract 0 h.toNat))) (fun l => .lit (.string (s.extract l.toNat s.size))) fun l h => .lit (.string (s.extract l.toNat h.toNat))
    | some ⟨.sl e, _, _, _, _⟩, .sh n xs => match tab e with
      | some ⟨_, _, size, _, _⟩ => match Nat.beq n size with
        | true => boundsK ρ xs.length lo hi (.sh n xs) (fun h => .sh n (xs.take h.toNat)) (fun l => .sh n (xs.drop l.toNat)) fun l h => .sh n ((xs.take h.toNat).drop l.toNat)
        | false => none
      | none => none
    | _, _ => none

def pop (tab : Nat → Option TI) (heap : List Blk) (ρ : Operand → D) : Op → Option (Prop × D)
  | .move x => forceK (ρ x) fun d => some (True, d)
  | .assign x => forceK (ρ x) fun d => some (True, d)
  | .pick c a b => pickD (ρ c) (ρ a) (ρ b)
  | .binOp op t x y _ => binD tab op t (ρ x) (ρ y)
  | .unOp op _ x => match op, ρ x with
    | .not, .lit (.bool b) => some (True, .lit (.bool (!b)))
    | .neg, .lit (.int .i64 n) => some (-9223372036854775808 ≤ -n ∧ -n ≤ 9223372036854775807, .lit (.int .i64 (-n)))
    | _, _ => none
  | .extract x i => match ρ x with
    | .tup ds => match ds[i]? with
      | some d => forceK d fun d => some (True, d)
      | none => none
    | _ => none
  | .makeFunc fn first cap => match fn, first.toList with
    | .func f, [] => mapK ρ cap.toList fun ds => some (True, .fn f ds)
    | _, _ => none
  | .fieldAddr s x f => match tab s with
    | some ⟨.st fs, _, _, _, _⟩ => match fs[f]? with
      | some (off, _ + 1) => fieldPtr off (ρ x)
      | _ => none
    | _ => none
  | .load t x => match tab t with
    | some ⟨_, agg, size, _, _⟩ => loadD heap agg size (ρ x)
    | none => none
  | .build t parts => match tab t with
    | some ⟨.st fs, _, _, _, zero⟩ => match fs.all fun f => !Nat.beq f.2 0 with
      | true => constK zero fun l => buildK ρ fs parts.toList l fun l => some (True, .agg l)
      | false => none
    | _ => none
  | .index t x i => match tab t, ρ x, ρ i with
    | some ⟨.str, _, _, _, _⟩, .lit (.string s), .lit (.int .i64 j) => some (0 ≤ j ∧ j < s.size, .lit (.int .u8 (bAt s j)))
    | _, _, _ => none
  | .indexAddr t x i => idxOwn tab heap t (ρ x) (ρ i)
  | .convert s t x => match tab s, tab t, ρ x with
    | some ⟨.int _, _, _, _, _⟩, some ⟨.int k, _, _, _, _⟩, .lit (.int _ n) => some (k.wrap n = n, .lit (.int k n))
    | _, _, _ => none
  | .call c => match c.callee, c.args.toList, c.argTypes.toList with
    | .builtin .len, [x], [t] => lenOp tab heap (ρ x) t
    | .builtin .min, [x, y], _ => minmaxD false (ρ x) (ρ y)
    | .builtin .max, [x, y], _ => minmaxD true (ρ x) (ρ y)
    | _, _, _ => none
  | .slice t x lo hi mx => sliceD tab ρ t x lo hi mx
  | _ => none
end Go.Proofs.Ytidfmgahnmpcdaa
