/- AM, the first part: a deterministic evaluator of the loaded code over an abstract heap (definitions alone). Conditions: none. -/
import Derived.Orders
import Derived.Below
namespace Go.Proofs.Ytcdeeppiljcddaa.AM
open Go

/-- What stands for a value that nobody may look at. -/
def junk : Value := .complex .f32 0 0

abbrev Env := List (Nat × Value)
def Env.get : Env → Nat → Value
  | [], _ => junk
  | (i, v) :: e, t => bif i == t then v else Env.get e t
def Env.put (e : Env) (d : Option Nat) (v : Value) : Env := match d with | some d => (d, v) :: e | none => e
def Env.keep (e : Env) (l : List Nat) : Env := l.map fun t => (t, e.get t)
def Env.eval (e : Env) : Operand → Value
  | .tmp t => e.get t
  | .const v => v
  | .global g => .pointer (some ⟨g, 0, none⟩)
  | .func f => .func (.func f) #[] #[]

/-- A block of the call's own: its cells, how many cells an element has, may it be written, the elder blocks that may share its cells. -/
structure Blk where
  cells : List Value
  sz : Nat
  rw : Bool
  par : List Nat

/-- The heap: what was there (below base), what is new, maps, the next number, the least one written. -/
structure Hp where
  base : Nat
  old : Addr → Option Value
  new : Nat → Option Blk
  maps : Nat → Option (List (Value × Value))
  next : Nat
  low : Nat

def Hp.cell (h : Hp) (a : Addr) : Option Value :=
  match h.new a.block with
  | some b => bif a.spot.isNone then b.cells[a.off]? else none
  | none => h.old a

def Hp.alloc (h : Hp) (cs : List Value) (sz : Nat) (par : List Nat) : Hp :=
  { h with new := fun r => bif r == h.next then some ⟨cs, sz, true, par⟩ else h.new r, next := h.next + 1 }
def Hp.fence (h : Hp) (r : Nat) : Hp :=
  { h with new := fun q => bif q == r then (h.new q).map (fun b => { b with rw := false }) else h.new q }

def splice (cs : List Value) (o : Nat) (vs : List Value) : List Value := cs.take o ++ vs ++ cs.drop (o + vs.length)

/-- The blocks that may share cells with a block that is written are given up. -/
def Hp.write (h : Hp) (r : Nat) (b : Blk) (o : Nat) (vs : List Value) : Hp :=
  { h with
    new := fun q => bif q == r then some { b with cells := splice b.cells o vs, par := [] } else bif b.par.contains q then none else h.new q,
    low := min h.low (b.par.foldl min r) }

section
variable {R : Type}

def needC (b : Bool) (K : Unit → Option R) : Option R := bif b then K () else none

def asIntC (k : IntKind) (v : Value) (K : Int → Option R) : Option R :=
  match v with
  | .int k' n => bif decide (k' = k) then K n else none
  | _ => none
def asBoolC (v : Value) (K : Bool → Option R) : Option R := match v with | .bool b => K b | _ => none
def asStrC (v : Value) (K : ByteArray → Option R) : Option R := match v with | .string b => K b | _ => none
def asSliceC (v : Value) (K : Option Addr → Nat → Nat → Option R) : Option R := match v with | .slice a n c => K a n c | _ => none
def asPtrC (v : Value) (K : Option Addr → Option R) : Option R := match v with | .pointer a => K a | _ => none
def asMapC (v : Value) (K : Option Nat → Option R) : Option R := match v with | .map a => K a | _ => none
def asAggC (v : Value) (K : List Value → Option R) : Option R := match v with | .agg cs => K cs.toList | _ => none

/-- A value of one cell, in the form of a type's zero value. -/
def like1C (z v : Value) (K : Value → Option R) : Option R :=
  match z with
  | .int k _ => asIntC k v fun n => K (.int k n)
  | .bool _ => asBoolC v fun b => K (.bool b)
  | .string _ => asStrC v fun s => K (.string s)
  | .slice _ _ _ => asSliceC v fun a n c => K (.slice a n c)
  | .pointer _ => asPtrC v fun a => K (.pointer a)
  | .map _ => asMapC v fun a => K (.map a)
  | _ => K v
def consC (l : List Value) (K : Value → List Value → Option R) : Option R := match l with | v :: vs => K v vs | [] => none
def endC (l : List Value) (K : Option R) : Option R := match l with | [] => K | _ :: _ => none
def likeCellsC : List Value → List Value → (List Value → Option R) → Option R
  | [], vs, K => endC vs (K [])
  | z :: zs, vs, K => consC vs fun v vs => like1C z v fun u => likeCellsC zs vs fun us => K (u :: us)
def like2C (z v : Value) (K : Value → Option R) : Option R :=
  match z with
  | .agg zs => asAggC v fun vs => likeCellsC zs.toList vs fun us => K (.agg us.toArray)
  | _ => like1C z v K
def likePartsC : List Value → List Value → (List Value → Option R) → Option R
  | [], vs, K => endC vs (K [])
  | z :: zs, vs, K => consC vs fun v vs => like2C z v fun u => likePartsC zs vs fun us => K (u :: us)
def like3C (z v : Value) (K : Value → Option R) : Option R :=
  match z with
  | .tuple zs => match v with
    | .tuple vs => likePartsC zs.toList vs.toList fun us => K (.tuple us.toArray)
    | _ => none
  | _ => like2C z v K

/-- One cell, read. -/
def Hp.ldC (h : Hp) (z : Value) (a : Addr) (K : Value → Option R) : Option R :=
  match h.cell a with
  | some v => like1C z v K
  | none => none
def Hp.ldCellsC (h : Hp) (a : Addr) : List Value → Nat → (List Value → Option R) → Option R
  | [], _, K => K []
  | z :: zs, i, K => h.ldC z (a.add i) fun u => Hp.ldCellsC h a zs (i + 1) fun us => K (u :: us)
/-- Cells as they are. -/
def Hp.rawCells (h : Hp) (a : Addr) : Nat → Nat → Option (List Value)
  | _, 0 => some []
  | i, n + 1 => match h.cell (a.add i) with
    | some v => (Hp.rawCells h a (i + 1) n).map (v :: ·)
    | none => none

/-- A value of one cell that may be laid into memory. -/
def okCell : Value → Bool
  | .bool _ | .int .. | .string _ | .pointer _ | .slice .. | .map _ | .func .. | .nilFunc | .nilIface => true
  | _ => false
def oneCells (vs : List Value) : Bool := vs.all okCell
/-- A constant that holds no address. -/
def plain1 : Value → Bool
  | .bool _ | .int .. | .string _ | .pointer none | .map none | .nilFunc | .nilIface => true
  | .slice none n c => n == 0 && c == 0
  | _ => false
def plainC : Value → Bool
  | .agg cs => cs.toList.all plain1
  | .tuple cs => cs.toList.all fun v => match v with
    | .agg cs => cs.toList.all plain1
    | v => plain1 v
  | v => plain1 v

def Hp.stC (h : Hp) (a : Addr) (vs : List Value) (K : Hp → Option R) : Option R :=
  match h.new a.block with
  | some b => needC (b.rw && a.spot.isNone && decide (a.off + vs.length ≤ b.cells.length) && oneCells vs) fun _ => K (h.write a.block b a.off vs)
  | none => none

/-- '==' of cells, for which it is asked cell by cell. -/
def eqCell (x y : Value) : Option Bool :=
  match x, y with
  | .int k a, .int k' b => bif decide (k = k') then some (decide (a = b)) else none
  | .bool a, .bool b => some (a == b)
  | .string a, .string b => some (decide (a = b))
  | _, _ => none
def eqCells : List Value → List Value → Option Bool
  | [], [] => some true
  | x :: xs, y :: ys => match eqCell x y with
    | some b => (eqCells xs ys).map (b && ·)
    | none => none
  | _, _ => none

def bitsI (op : BinOp) (k : IntKind) (x y : Int) : Int :=
  k.wrap (match op with
    | .and => (BitVec.ofInt k.bits x &&& BitVec.ofInt k.bits y).toNat
    | .or => (BitVec.ofInt k.bits x ||| BitVec.ofInt k.bits y).toNat
    | .xor => (BitVec.ofInt k.bits x ^^^ BitVec.ofInt k.bits y).toNat
    | _ => (BitVec.ofInt k.bits x &&& ~~~ BitVec.ofInt k.bits y).toNat)

def intC (op : BinOp) (k k' : IntKind) (a b : Int) (K : Value → Option R) : Option R :=
  match op with
  | .shl => needC (decide (0 ≤ b)) fun _ => K (.int k (k.wrap (a * 2 ^ (min b.toNat k.bits))))
  | .shr => needC (decide (0 ≤ b)) fun _ => K (.int k (a.fdiv (2 ^ (min b.toNat k.bits))))
  | .add => needC (decide (k = k')) fun _ => K (.int k (k.wrap (a + b)))
  | .sub => needC (decide (k = k')) fun _ => K (.int k (k.wrap (a - b)))
  | .mul => needC (decide (k = k')) fun _ => K (.int k (k.wrap (a * b)))
  | .quo => needC (decide (k = k')) fun _ => needC (!decide (b = 0)) fun _ => K (.int k (k.wrap (a.tdiv b)))
  | .rem => needC (decide (k = k')) fun _ => needC (!decide (b = 0)) fun _ => K (.int k (a.tmod b))
  | .and => needC (decide (k = k')) fun _ => K (.int k (bitsI .and k a b))
  | .or => needC (decide (k = k')) fun _ => K (.int k (bitsI .or k a b))
  | .xor => needC (decide (k = k')) fun _ => K (.int k (bitsI .xor k a b))
  | .andNot => needC (decide (k = k')) fun _ => K (.int k (bitsI .andNot k a b))
  | .eql => needC (decide (k = k')) fun _ => K (.bool (decide (a = b)))
  | .neq => needC (decide (k = k')) fun _ => K (.bool (!decide (a = b)))
  | .lss => needC (decide (k = k')) fun _ => K (.bool (decide (a < b)))
  | .leq => needC (decide (k = k')) fun _ => K (.bool (decide (a ≤ b)))
  | .gtr => needC (decide (k = k')) fun _ => K (.bool (decide (b < a)))
  | .geq => needC (decide (k = k')) fun _ => K (.bool (decide (b ≤ a)))

def strC (op : BinOp) (a b : ByteArray) (K : Value → Option R) : Option R :=
  match op with
  | .add => needC (decide (a.size + b.size ≤ 9223372036854775807)) fun _ => K (.string (a ++ b))
  | .eql => K (.bool (decide (a = b)))
  | .neq => K (.bool (!decide (a = b)))
  | .lss => K (.bool (Op.bytesLess a.toList b.toList))
  | .leq => K (.bool (Op.bytesLess a.toList b.toList || decide (a = b)))
  | .gtr => K (.bool (!(Op.bytesLess a.toList b.toList || decide (a = b))))
  | .geq => K (.bool (!Op.bytesLess a.toList b.toList))
  | _ => none

/-- 'op' is '==' or '!='. -/
def eqlC (op : BinOp) (b : Bool) (K : Value → Option R) : Option R :=
  match op with
  | .eql => K (.bool b)
  | .neq => K (.bool (!b))
  | _ => none
def nilC (op : BinOp) (a b : Option Addr) (K : Value → Option R) : Option R :=
  match b with
  | none => eqlC op a.isNone K
  | some _ => match a with
    | none => eqlC op false K
    | some _ => none

/-- Cells of the kinds of a pattern's: numbers, bools, strings. -/
def shapeB : List Value → List Value → Bool
  | [], [] => true
  | .int k _ :: zs, .int k' _ :: vs => decide (k' = k) && shapeB zs vs
  | .bool _ :: zs, .bool _ :: vs => shapeB zs vs
  | .string _ :: zs, .string _ :: vs => shapeB zs vs
  | _, _ => false

def binC (op : BinOp) (d : Option TypeDesc) (eqt : Option (List Value)) (x y : Value) (K : Value → Option R) : Option R :=
  match x with
  | .int k a => match y with
    | .int k' b => intC op k k' a b K
    | _ => none
  | .string a => match y with
    | .string b => strC op a b K
    | _ => none
  | .bool a => match y with
    | .bool b => match d with
      | some .bool => eqlC op (a == b) K
      | _ => none
    | _ => none
  | .slice a _ _ => match y with
    | .slice b _ _ => match d with
      | some (.slice _) => nilC op a b K
      | _ => none
    | _ => none
  | .pointer a => match y with
    | .pointer b => match d with
      | some (.pointer _) => nilC op a b K
      | _ => none
    | _ => none
  | .agg xs => match y with
    | .agg ys => match eqt with
      | some zs => needC (shapeB zs xs.toList && shapeB zs ys.toList) fun _ => match eqCells xs.toList ys.toList with
        | some b => eqlC op b K
        | none => none
      | none => none
    | _ => none
  | _ => none
end
end Go.Proofs.Ytcdeeppiljcddaa.AM
