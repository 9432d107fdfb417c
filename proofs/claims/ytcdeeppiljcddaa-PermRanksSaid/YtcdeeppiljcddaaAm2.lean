/- AM, the second part: operations, regions, code, calls (definitions alone). Conditions: none. -/
import Derived.Test.YtcdeeppiljcddaaAm1
namespace Go.Proofs.Ytcdeeppiljcddaa.AM
open Go

/-- What the evaluator is told beside the program: of which types '==' of structs and arrays is asked cell by cell; of which function's region the environment keeps which slots. -/
structure Hint where
  eqt : TypeId → Option (List Value)
  keep : FuncId → Nat → Option (List Nat)

section
variable {R : Type}

def sizeC (P : Program) (t : TypeId) (K : Nat → Option R) : Option R := match P.info? t with | some i => K i.size | none => none
def zeroC (P : Program) (t : TypeId) (K : Value → Option R) : Option R := match P.info? t with | some i => (match i.zero with | some z => needC (plainC z) fun _ => K z | none => none) | none => none
def elemC (P : Program) (t : TypeId) (K : TypeId → Option R) : Option R := match P.underlying t with | some (.slice e) => K e | _ => none
def aggC (P : Program) (t : TypeId) (K : Bool → Option R) : Option R := match P.underlying t with | some (.struct _) => K true | some (.array _ _) => K true | some _ => K false | none => none
/-- A variable, read. -/
def loadC (P : Program) (h : Hp) (t : TypeId) (a : Addr) (K : Value → Option R) : Option R :=
  aggC P t fun b => zeroC P t fun z => bif b then sizeC P t fun s => needC (decide (z.cells.size = s)) fun _ => h.ldCellsC a z.cells.toList 0 fun us => K (.agg us.toArray) else h.ldC z a K

def placesOf (P : Program) (fs : Array Field) : Option (List (Nat × Nat)) :=
  fs.toList.mapM fun f => (P.info? f.type).map fun i => (f.offset, i.size)

def buildC (P : Program) (t : TypeId) (parts : List (Nat × Value)) (K : Value → Option R) : Option R :=
  zeroC P t fun z => match P.underlying t with
    | some (.struct fs) => match placesOf P fs with
      | some ps => match Instr.fill (fun i => ps[i]?) z.cells parts with
        | some cs => K (.agg cs)
        | none => none
      | none => none
    | some (.array _ e) => sizeC P e fun s => match Instr.fill (fun i => some (i * s, s)) z.cells parts with
        | some cs => K (.agg cs)
        | none => none
    | _ => none

def zerosOf (z : Value) (n : Nat) : List Value := (List.range n).map fun i => z.cells[i % z.cells.size]!

/-- The place of element i. -/
def idxC (a : Option Addr) (n : Nat) (s : Nat) (i : Int) (K : Value → Option R) : Option R :=
  needC (decide (0 ≤ i) && decide (i < (n : Int))) fun _ => match a with
    | some ad => K (.pointer (some (ad.add (i.toNat * s))))
    | none => none

/-- A part of a slice: of one that was there as it is; of a new one the room behind is not told. -/
def cutT (h : Hp) (a : Option Addr) (n c s : Nat) (lo hi : Option Int) (K : Option Addr → Nat → Nat → Option R) : Option R :=
  match a with
  | none =>
    needC (decide (lo.getD 0 = 0) && decide (hi.getD 0 = 0) && decide (n = 0) && decide (c = 0)) fun _ => K none 0 0
  | some ad =>
    bif decide (ad.block < h.base) then
      needC (decide (0 ≤ lo.getD 0) && decide (lo.getD 0 ≤ hi.getD n) && decide (hi.getD n ≤ c) && decide (n ≤ c)) fun _ =>
        K (some (bif decide (c = (lo.getD 0).toNat) then ad else ad.add ((lo.getD 0).toNat * s))) ((hi.getD n).toNat - (lo.getD 0).toNat) (c - (lo.getD 0).toNat)
    else match h.new ad.block with
      | some b =>
        needC (decide (0 ≤ lo.getD 0) && decide (lo.getD 0 ≤ hi.getD n) && decide (hi.getD n ≤ n) && decide (b.sz = s) && ad.spot.isNone) fun _ =>
          K (some (ad.add ((lo.getD 0).toNat * s))) ((hi.getD n).toNat - (lo.getD 0).toNat) 0
      | none => none
def cutC (h : Hp) (a : Option Addr) (n c s : Nat) (lo hi : Option Int) (K : Value → Option R) : Option R := cutT h a n c s lo hi fun a n c => K (.slice a n c)

/-- The cells of what is appended, or copied: at most n elements. -/
def srcLenC (x : Value) (K : Nat → Option R) : Option R :=
  match x with
  | .slice _ n _ => K n
  | .string s => K s.size
  | _ => none
def srcC (h : Hp) (s n : Nat) (x : Value) (K : List Value → Option R) : Option R :=
  match x with
  | .slice (some a) _ _ => match h.rawCells a 0 (n * s) with
    | some cs => K cs
    | none => none
  | .slice none _ _ => K []
  | .string b => needC (decide (s = 1)) fun _ => K ((b.data.toList.take n).map fun x => Value.int .u8 x.toNat)
  | _ => none

/-- 'append' of m elements, whose cells are vs. -/
def growT (h : Hp) (s bytes : Nat) (a : Option Addr) (n c m : Nat) (vs : List Value) (K : Option Addr → Nat → Nat → Hp → Option R) : Option R :=
  bif decide (m = 0) then needC (match a with | some ad => !decide (ad.block < h.base) || decide (n ≤ c) | none => true) fun _ => K a n c h else
  needC (decide ((n + m) * (bytes + 1) ≤ 70368744177664) && decide (bytes ≤ 1048576) && decide (vs.length = m * s) && oneCells vs) fun _ =>
    match a with
    | none => needC (decide (n = 0)) fun _ => K (some ⟨h.next, 0, none⟩) m 0 (h.alloc vs s [])
    | some ad => match h.new ad.block with
      | some b =>
        needC (b.rw && ad.spot.isNone && decide (b.sz = s) && decide (ad.off + n * s = b.cells.length) && oneCells b.cells) fun _ =>
          K (some ⟨h.next, 0, none⟩) (n + m) 0 ((h.fence ad.block).alloc (b.cells.drop ad.off ++ vs) s (ad.block :: b.par))
      | none =>
        needC (decide (c = n) && decide (ad.block < h.base)) fun _ => match h.rawCells ad 0 (n * s) with
          | some cs => K (some ⟨h.next, 0, none⟩) (n + m) 0 (h.alloc (cs ++ vs) s [])
          | none => none
def growC (h : Hp) (s bytes : Nat) (a : Option Addr) (n c m : Nat) (vs : List Value) (K : Value → Hp → Option R) : Option R := growT h s bytes a n c m vs fun a n c h => K (.slice a n c) h

def appendC (P : Program) (ts : List TypeId) (args : List Value) (h : Hp) (K : Value → Hp → Option R) : Option R :=
  match ts, args with
  | [t, tx], [sl, x] => elemC P t fun e => sizeC P e fun s => zeroC P e fun z => needC (decide (z.cells.size = s)) fun _ => match P.info? e with
    | some i => match P.underlying tx with
      | some (.slice _) => asSliceC sl fun a n c => asSliceC x fun b m d => srcC h s m (.slice b m d) fun vs => growC h s i.bytes a n c m vs K
      | some .string => asSliceC sl fun a n c => asStrC x fun b => srcC h s b.size (.string b) fun vs => growC h s i.bytes a n c b.size vs K
      | _ => none
    | none => none
  | _, _ => none

def putT (h : Hp) (s : Nat) (a : Option Addr) (k : Nat) (vs : List Value) (K : Hp → Option R) : Option R :=
  bif decide (k = 0) then K h else
  match a with
  | some ad => needC (decide (vs.length = k * s)) fun _ => h.stC ad vs K
  | none => none
def putC (h : Hp) (s : Nat) (a : Option Addr) (k : Nat) (vs : List Value) (K : Value → Hp → Option R) : Option R := putT h s a k vs fun h' => K (.int .i64 k) h'
def copyC (P : Program) (ts : List TypeId) (args : List Value) (h : Hp) (K : Value → Hp → Option R) : Option R :=
  match ts, args with
  | [t, tx], [dst, x] => elemC P t fun e => sizeC P e fun s => asSliceC dst fun a n _ => match P.underlying tx with
    | some (.slice _) => asSliceC x fun b m d => srcC h s (Nat.min m n) (.slice b m d) fun vs => putC h s a (Nat.min m n) vs K
    | some .string => asStrC x fun b => srcC h s (Nat.min b.size n) (.string b) fun vs => putC h s a (Nat.min b.size n) vs K
    | _ => none
  | _, _ => none

def lenC (P : Program) (ts : List TypeId) (args : List Value) (h : Hp) (K : Value → Option R) : Option R :=
  match ts, args with
  | [t], [x] => match P.underlying t with
    | some .string => asStrC x fun s => K (.int .i64 s.size)
    | some (.slice _) => asSliceC x fun _ n _ => K (.int .i64 n)
    | some (.array n _) => K (.int .i64 n)
    | some (.map _ _) => asMapC x fun a => match a with
      | none => K (.int .i64 0)
      | some r => match h.maps r with
        | some es => K (.int .i64 es.length)
        | none => none
    | _ => none
  | _, _ => none

def mostFrom (big : Bool) (k : IntKind) : Int → List Value → (Value → Option R) → Option R
  | a, [], K => K (.int k a)
  | a, v :: r, K => asIntC k v fun b => mostFrom big k (bif big then max a b else min a b) r K
def mostC (big : Bool) (l : List Value) (K : Value → Option R) : Option R :=
  match l with
  | [] => none
  | v :: r => match v with
    | .int k a => mostFrom big k a r K
    | _ => none

/-- Keys: numbers and strings. -/
def keyB (x y : Value) : Option Bool :=
  match x, y with
  | .int k a, .int k' b => bif decide (k = k') then some (decide (a = b)) else none
  | .string a, .string b => some (decide (a = b))
  | _, _ => none
def keyLook : List (Value × Value) → Value → Option (Option Value)
  | [], _ => some none
  | (k, v) :: es, x => match keyB x k with
    | some true => some (some v)
    | some false => keyLook es x
    | none => none
def keyPut : List (Value × Value) → Value → Value → List (Value × Value)
  | [], x, u => [(x, u)]
  | (k, v) :: es, x, u => match keyB x k with
    | some true => (x, u) :: es
    | _ => (k, v) :: keyPut es x u
def keyDrop : List (Value × Value) → Value → List (Value × Value)
  | [], _ => []
  | (k, v) :: es, x => match keyB x k with
    | some true => es
    | _ => (k, v) :: keyDrop es x
def keyKind (P : Program) (kt : TypeId) (x : Value) : Bool :=
  match P.underlying kt, x with
  | some (.int k), .int k' _ => decide (k = k')
  | some .string, .string _ => true
  | _, _ => false
def mapTypeC (P : Program) (t : TypeId) (K : TypeId → TypeId → Option R) : Option R := match P.underlying t with | some (.map k e) => K k e | _ => none
def mapAtC (h : Hp) (x : Value) (K : List (Value × Value) → Option R) : Option R :=
  asMapC x fun a => match a with
    | none => K []
    | some r => match h.maps r with
      | some es => K es
      | none => none

/-- What stands for a key; or z. -/
def lkC (es : List (Value × Value)) (key z : Value) (K : Value → Bool → Option R) : Option R :=
  match keyLook es key with
  | some r => K (r.getD z) r.isSome
  | none => none
def lookC (P : Program) (t : TypeId) (x key : Value) (ok : Bool) (h : Hp) (K : Value → Option R) : Option R :=
  mapTypeC P t fun kt e => needC (keyKind P kt key) fun _ => zeroC P e fun z => mapAtC h x fun es => lkC es key z fun v p => like2C z v fun u => K (bif ok then .tuple #[u, .bool p] else u)

def Hp.putMap (h : Hp) (r : Nat) (es : List (Value × Value)) : Hp :=
  { h with maps := fun q => bif q == r then some es else h.maps q, low := min h.low r }
def Hp.allocMap (h : Hp) : Hp :=
  { h with maps := fun q => bif q == h.next then some [] else h.maps q, next := h.next + 1 }

def mapPutC (P : Program) (t : TypeId) (m key v : Value) (h : Hp) (K : Hp → Option R) : Option R :=
  mapTypeC P t fun kt _ => needC (keyKind P kt key) fun _ => asMapC m fun a => match a with
    | none => none
    | some r => match h.maps r with
      | some es => match keyLook es key with
        | some _ => K (h.putMap r (keyPut es key v))
        | none => none
      | none => none
def mapDropC (P : Program) (ts : List TypeId) (args : List Value) (h : Hp) (K : Value → Hp → Option R) : Option R :=
  match ts, args with
  | t :: _, [m, key] => mapTypeC P t fun kt _ => needC (keyKind P kt key) fun _ => asMapC m fun a => match a with
    | none => K (.tuple #[]) h
    | some r => match h.maps r with
      | some es => match keyLook es key with
        | some _ => K (.tuple #[]) (h.putMap r (keyDrop es key))
        | none => none
      | none => none
  | _, _ => none

def byteV (v : Value) : UInt8 := match v with | .int _ b => UInt8.ofNat b.toNat | _ => 0
def convC (P : Program) (src dst : TypeId) (x : Value) (h : Hp) (K : Value → Option R) : Option R :=
  match P.underlying src, P.underlying dst with
  | some (.int _), some (.int k) => match x with
    | .int _ n => K (.int k (k.wrap n))
    | _ => none
  | some (.int _), some .string => match x with
    | .int _ n => needC (decide (0 ≤ n) && decide (n < 128)) fun _ => K (.string ⟨#[n.toNat.toUInt8]⟩)
    | _ => none
  | some .string, some .string => asStrC x fun s => K (.string s)
  | some (.slice e), some .string => match P.underlying e with
    | some (.int .u8) => asSliceC x fun a n _ => match a with
      | none => K (.string ByteArray.empty)
      | some ad => h.ldCellsC ad (List.replicate n (.int .u8 0)) 0 fun cs => K (.string ⟨(cs.map byteV).toArray⟩)
    | _ => none
  | _, _ => none

def unC (op : UnOp) (x : Value) (K : Value → Option R) : Option R :=
  match op with
  | .neg => match x with
    | .int k n => K (.int k (k.wrap (0 - n)))
    | _ => none
  | .not => match x with
    | .bool b => K (.bool (!b))
    | _ => none
  | .xor => match x with
    | .int k n => K (.int k (bitsI .xor k (bif k.signed then -1 else k.max) n))
    | _ => none
  | _ => none

def partC (P : Program) (t : TypeId) (cs : List Value) (off : Nat) (K : Value → Option R) : Option R :=
  aggC P t fun b => bif b then sizeC P t fun s => K (.agg ((cs.drop off).take s).toArray)
  else zeroC P t fun z => match cs[off]? with
    | some v => like1C z v K
    | none => none

def fieldC (P : Program) (t : TypeId) (f : Nat) (K : Field → Option R) : Option R :=
  match P.underlying t with
  | some (.struct fs) => match fs[f]? with
    | some fd => K fd
    | none => none
  | _ => none

def callC (P : Program) (call : FuncId → List Value → Hp → Option (Value × Hp)) (f : Value) (args : List Value) (t : TypeId) (h : Hp) (K : Value → Hp → Option R) : Option R :=
  match f with
  | .func (.func g) first captured => match P.info? t with
    | some i => (call g (first.toList ++ args ++ captured.toList) h).bind fun r => match i.zero with
      | some z => like3C z r.1 fun v => K v r.2
      | none => K r.1 r.2
    | none => none
  | _ => none

def boundV (v : Value) : Int := match v with | .int _ n => n | _ => -1
/-- One operation. -/
def opC (P : Program) (H : Hint) (call : FuncId → List Value → Hp → Option (Value × Hp)) (ev : Operand → Value) (o : Oper) (h : Hp) (K : Value → Hp → Option R) : Option R :=
  match o.op with
  | .move x => K (ev x) h
  | .assign x => K (ev x) h
  | .pick c a b => asBoolC (ev c) fun t => match t with | true => K (ev a) h | false => K (ev b) h
  | .alloc t => zeroC P t fun z => K (.pointer (some ⟨h.next, 0, none⟩)) (h.alloc z.cells.toList 0 [])
  | .box _ x => needC (oneCells (ev x).cells.toList) fun _ => K (.pointer (some ⟨h.next, 0, none⟩)) (h.alloc (ev x).cells.toList 0 [])
  | .build t parts => needC (parts.toList.all fun p => oneCells (ev p.2).cells.toList) fun _ => buildC P t (parts.toList.map fun p => (p.1, ev p.2)) fun v => K v h
  | .buildSlice t n parts => elemC P t fun e => sizeC P e fun s => needC (decide (n * s ≤ 4096) && parts.toList.all fun p => oneCells (ev p.2).cells.toList) fun _ => zeroC P e fun z => needC (decide (z.cells.size = s)) fun _ =>
      match Instr.fill (fun i => some (i * s, s)) (zerosOf z (n * s)).toArray (parts.toList.map fun p => (p.1, ev p.2)) with
      | some cs => K (.slice (some ⟨h.next, 0, none⟩) n 0) (h.alloc cs.toList s [])
      | none => none
  | .load t x => asPtrC (ev x) fun a => match a with
      | some ad => loadC P h t ad fun u => K u h
      | none => none
  | .store t x v => asPtrC (ev x) fun a => match a with
      | some ad => sizeC P t fun s => needC (decide ((ev v).cells.size = s)) fun _ => h.stC ad (ev v).cells.toList fun h' => K undef h'
      | none => none
  | .nilCheck x => match ev x with
      | .pointer a => match a with
        | some ad => K (.pointer (some ad)) h
        | none => none
      | .func (.func g) f c => K (.func (.func g) f c) h
      | _ => none
  | .binOp op t x y _ => binC op (P.underlying t) (H.eqt t) (ev x) (ev y) fun v => K v h
  | .unOp op _ x => unC op (ev x) fun v => K v h
  | .convert s d x => convC P s d (ev x) h fun v => K v h
  | .makeFunc fn first captured => K (.func fn (first.map ev) (captured.map ev)) h
  | .makeMap t none => mapTypeC P t fun _ _ => K (.map (some h.next)) h.allocMap
  | .makeSlice t l c => elemC P t fun e => match P.info? e with
      | some i => zeroC P e fun z => match ev l with
        | .int _ n => match ev c with
          | .int _ m => needC (decide (0 ≤ n) && decide (n ≤ m) && decide (m * (i.bytes + 1) ≤ 70368744177664) && decide (z.cells.size = i.size)) fun _ =>
              K (.slice (some ⟨h.next, 0, none⟩) n.toNat 0) (h.alloc (zerosOf z (n.toNat * i.size)) i.size [])
          | _ => none
        | _ => none
      | none => none
  | .slice t x lo hi none => match P.underlying t with
      | some .string => asStrC (ev x) fun s =>
          needC (decide (0 ≤ (lo.map fun v => boundV (ev v)).getD 0) && decide ((lo.map fun v => boundV (ev v)).getD 0 ≤ (hi.map fun v => boundV (ev v)).getD s.size) && decide ((hi.map fun v => boundV (ev v)).getD s.size ≤ (s.size : Int))) fun _ =>
            K (.string (s.extract ((lo.map fun v => boundV (ev v)).getD 0).toNat ((hi.map fun v => boundV (ev v)).getD s.size).toNat)) h
      | some (.slice e) => sizeC P e fun s => asSliceC (ev x) fun a n c =>
          cutC h a n c s (lo.map fun v => boundV (ev v)) (hi.map fun v => boundV (ev v)) fun v => K v h
      | _ => none
  | .fieldAddr t x f => fieldC P t f fun fd => sizeC P fd.type fun s => needC (!decide (s = 0)) fun _ => asPtrC (ev x) fun a => match a with
      | some ad => K (.pointer (some (ad.add fd.offset))) h
      | none => none
  | .field t x f => fieldC P t f fun fd => asAggC (ev x) fun cs => partC P fd.type cs fd.offset fun v => K v h
  | .indexAddr t x i => match P.underlying t with
      | some (.slice e) => sizeC P e fun s => asSliceC (ev x) fun a n _ => match ev i with
        | .int _ j => idxC a n s j fun v => K v h
        | _ => none
      | some (.array n e) => sizeC P e fun s => asPtrC (ev x) fun a => match ev i with
        | .int _ j => idxC a n s j fun v => K v h
        | _ => none
      | _ => none
  | .index t x i => match P.underlying t with
      | some .string => asStrC (ev x) fun s => match ev i with
        | .int _ j => needC (decide (0 ≤ j) && decide (j < (s.size : Int))) fun _ => K (.int .u8 (s[j.toNat]!).toNat) h
        | _ => none
      | some (.array n e) => sizeC P e fun s => asAggC (ev x) fun cs => match ev i with
        | .int _ j => needC (decide (0 ≤ j) && decide (j < (n : Int))) fun _ => partC P e cs (j.toNat * s) fun v => K v h
        | _ => none
      | _ => none
  | .lookup t x i ok => lookC P t (ev x) (ev i) ok h fun v => K v h
  | .mapUpdate t m k v => mapPutC P t (ev m) (ev k) (ev v) h fun h' => K undef h'
  | .extract x i => match ev x with
      | .tuple vs => match vs.toList[i]? with
        | some v => K v h
        | none => none
      | _ => none
  | .call { callee := .builtin b, args, argTypes } => match b with
      | .len => lenC P argTypes.toList (args.toList.map ev) h fun v => K v h
      | .append => appendC P argTypes.toList (args.toList.map ev) h K
      | .copy => copyC P argTypes.toList (args.toList.map ev) h K
      | .min => mostC false (args.toList.map ev) fun v => K v h
      | .max => mostC true (args.toList.map ev) fun v => K v h
      | .delete => mapDropC P argTypes.toList (args.toList.map ev) h K
      | _ => none
  | .call { callee := .value f, args, argTypes := _ } => callC P call (ev f) (args.toList.map ev) o.type h K
  | _ => none
end
end Go.Proofs.Ytcdeeppiljcddaa.AM
