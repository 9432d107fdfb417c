/- AM, the fourth part: what follows an operation may be asked behind it (every evaluator commutes with Option.bind). Conditions: none. -/
import Derived.Test.YtcdeeppiljcddaaAm3
namespace Go.Proofs.Ytcdeeppiljcddaa.AM
open Go
set_option linter.unusedSectionVars false
set_option linter.unusedSimpArgs false

section
variable {R S : Type} (G : R → Option S)

theorem needC_bind (b : Bool) (K : Unit → Option R) : (needC b K).bind G = needC b fun u => (K u).bind G := by cases b <;> rfl
theorem asIntC_bind (k : IntKind) (v : Value) (K : Int → Option R) : (asIntC k v K).bind G = asIntC k v fun n => (K n).bind G := by
  cases v <;> try rfl
  rename_i k' n
  unfold asIntC
  dsimp only
  cases decide (k' = k) <;> rfl
theorem asBoolC_bind (v : Value) (K : Bool → Option R) : (asBoolC v K).bind G = asBoolC v fun n => (K n).bind G := by cases v <;> rfl
theorem asStrC_bind (v : Value) (K : ByteArray → Option R) : (asStrC v K).bind G = asStrC v fun n => (K n).bind G := by cases v <;> rfl
theorem asSliceC_bind (v : Value) (K : Option Addr → Nat → Nat → Option R) : (asSliceC v K).bind G = asSliceC v fun a n c => (K a n c).bind G := by cases v <;> rfl
theorem asPtrC_bind (v : Value) (K : Option Addr → Option R) : (asPtrC v K).bind G = asPtrC v fun n => (K n).bind G := by cases v <;> rfl
theorem asMapC_bind (v : Value) (K : Option Nat → Option R) : (asMapC v K).bind G = asMapC v fun n => (K n).bind G := by cases v <;> rfl
theorem asAggC_bind (v : Value) (K : List Value → Option R) : (asAggC v K).bind G = asAggC v fun n => (K n).bind G := by cases v <;> rfl
theorem like1C_bind (z v : Value) (K : Value → Option R) : (like1C z v K).bind G = like1C z v fun u => (K u).bind G := by
  cases z <;> simp only [like1C, asIntC_bind, asBoolC_bind, asStrC_bind, asSliceC_bind, asPtrC_bind, asMapC_bind]
theorem likeCellsC_bind : ∀ (zs vs : List Value) (K : List Value → Option R), (likeCellsC zs vs K).bind G = likeCellsC zs vs fun u => (K u).bind G
  | [], [], K => rfl
  | [], _ :: _, K => rfl
  | _ :: _, [], K => rfl
  | z :: zs, v :: vs, K => by simp only [likeCellsC, consC, like1C_bind, likeCellsC_bind zs vs]
theorem like2C_bind (z v : Value) (K : Value → Option R) : (like2C z v K).bind G = like2C z v fun u => (K u).bind G := by
  cases z <;> simp only [like2C, like1C_bind, asAggC_bind, likeCellsC_bind]
theorem likePartsC_bind : ∀ (zs vs : List Value) (K : List Value → Option R), (likePartsC zs vs K).bind G = likePartsC zs vs fun u => (K u).bind G
  | [], [], K => rfl
  | [], _ :: _, K => rfl
  | _ :: _, [], K => rfl
  | z :: zs, v :: vs, K => by simp only [likePartsC, consC, like2C_bind, likePartsC_bind zs vs]
theorem like3C_bind (z v : Value) (K : Value → Option R) : (like3C z v K).bind G = like3C z v fun u => (K u).bind G := by
  cases z <;> simp only [like3C, like2C_bind]
  cases v <;> simp only [likePartsC_bind, Option.bind_none]
theorem ldC_bind (h : Hp) (z : Value) (a : Addr) (K : Value → Option R) : (h.ldC z a K).bind G = h.ldC z a fun u => (K u).bind G := by
  unfold Hp.ldC; split <;> simp only [like1C_bind, Option.bind_none]
theorem ldCellsC_bind (h : Hp) (a : Addr) : ∀ (zs : List Value) (i : Nat) (K : List Value → Option R), (h.ldCellsC a zs i K).bind G = h.ldCellsC a zs i fun u => (K u).bind G
  | [], i, K => rfl
  | z :: zs, i, K => by simp only [Hp.ldCellsC, ldC_bind, ldCellsC_bind h a zs]
theorem stC_bind (h : Hp) (a : Addr) (vs : List Value) (K : Hp → Option R) : (h.stC a vs K).bind G = h.stC a vs fun u => (K u).bind G := by
  unfold Hp.stC; split <;> simp only [needC_bind, Option.bind_none]
theorem intC_bind (op : BinOp) (k k' : IntKind) (a b : Int) (K : Value → Option R) : (intC op k k' a b K).bind G = intC op k k' a b fun u => (K u).bind G := by
  cases op <;> simp only [intC, needC_bind]
theorem strC_bind (op : BinOp) (a b : ByteArray) (K : Value → Option R) : (strC op a b K).bind G = strC op a b fun u => (K u).bind G := by
  cases op <;> simp only [strC, needC_bind, Option.bind_none]
theorem eqlC_bind (op : BinOp) (b : Bool) (K : Value → Option R) : (eqlC op b K).bind G = eqlC op b fun u => (K u).bind G := by
  cases op <;> simp only [eqlC, Option.bind_none]
theorem nilC_bind (op : BinOp) (a b : Option Addr) (K : Value → Option R) : (nilC op a b K).bind G = nilC op a b fun u => (K u).bind G := by
  unfold nilC; (repeat' split) <;> simp only [eqlC_bind, Option.bind_none]
theorem binC_bind (op : BinOp) (d : Option TypeDesc) (q : Option (List Value)) (x y : Value) (K : Value → Option R) : (binC op d q x y K).bind G = binC op d q x y fun u => (K u).bind G := by
  unfold binC
  split <;> (try rfl) <;> split <;> (try rfl) <;> (try simp only [intC_bind, strC_bind])
  · split <;> simp only [eqlC_bind, Option.bind_none]
  · split <;> simp only [nilC_bind, Option.bind_none]
  · split <;> simp only [nilC_bind, Option.bind_none]
  · split <;> simp only [needC_bind, Option.bind_none]
    congr 1; funext _
    split <;> simp only [eqlC_bind, Option.bind_none]
variable (P : Program)
theorem sizeC_bind (t : TypeId) (K : Nat → Option R) : (sizeC P t K).bind G = sizeC P t fun u => (K u).bind G := by unfold sizeC; split <;> rfl
theorem zeroC_bind (t : TypeId) (K : Value → Option R) : (zeroC P t K).bind G = zeroC P t fun u => (K u).bind G := by
  unfold zeroC; split <;> (try rfl)
  split <;> (try rfl)
  rw [needC_bind]
theorem elemC_bind (t : TypeId) (K : TypeId → Option R) : (elemC P t K).bind G = elemC P t fun u => (K u).bind G := by unfold elemC; split <;> rfl
theorem aggC_bind (t : TypeId) (K : Bool → Option R) : (aggC P t K).bind G = aggC P t fun u => (K u).bind G := by unfold aggC; split <;> rfl
theorem loadC_bind (h : Hp) (t : TypeId) (a : Addr) (K : Value → Option R) : (loadC P h t a K).bind G = loadC P h t a fun u => (K u).bind G := by
  unfold loadC
  simp only [aggC_bind, zeroC_bind]
  congr 1; funext b; congr 1; funext z
  cases b <;> simp only [cond_true, cond_false, ldC_bind, ldCellsC_bind, sizeC_bind, needC_bind]
theorem buildC_bind (t : TypeId) (ps : List (Nat × Value)) (K : Value → Option R) : (buildC P t ps K).bind G = buildC P t ps fun u => (K u).bind G := by
  unfold buildC
  rw [zeroC_bind]
  congr 1; funext z
  split
  · split <;> (try rfl)
    split <;> rfl
  · rw [sizeC_bind]; congr 1; funext s; split <;> rfl
  · rfl
theorem idxC_bind (a : Option Addr) (n s : Nat) (i : Int) (K : Value → Option R) : (idxC a n s i K).bind G = idxC a n s i fun u => (K u).bind G := by
  unfold idxC; rw [needC_bind]; congr 1; funext _; split <;> rfl
theorem cutC_bind (h : Hp) (a : Option Addr) (n c s : Nat) (lo hi : Option Int) (K : Value → Option R) : (cutC h a n c s lo hi K).bind G = cutC h a n c s lo hi fun u => (K u).bind G := by
  unfold cutC cutT; split
  · rw [needC_bind]
  · rename_i ad
    cases decide (ad.block < h.base) <;> simp only [cond_true, cond_false, needC_bind]
    split <;> simp only [needC_bind, Option.bind_none]
theorem srcLenC_bind (x : Value) (K : Nat → Option R) : (srcLenC x K).bind G = srcLenC x fun u => (K u).bind G := by unfold srcLenC; split <;> rfl
theorem srcC_bind (h : Hp) (s n : Nat) (x : Value) (K : List Value → Option R) : (srcC h s n x K).bind G = srcC h s n x fun u => (K u).bind G := by
  unfold srcC; split <;> (try rfl)
  · split <;> rfl
  · rw [needC_bind]
theorem growC_bind (h : Hp) (s bytes : Nat) (a : Option Addr) (n c m : Nat) (vs : List Value) (K : Value → Hp → Option R) : (growC h s bytes a n c m vs K).bind G = growC h s bytes a n c m vs fun u h => (K u h).bind G := by
  unfold growC growT
  cases decide (m = 0)
  · simp only [cond_false, needC_bind]
    congr 1; funext _
    split
    · rw [needC_bind]
    · split
      · rw [needC_bind]
      · rw [needC_bind]; congr 1; funext _; split <;> rfl
  · simp only [cond_true, needC_bind]
theorem appendC_bind (ts : List TypeId) (as : List Value) (h : Hp) (K : Value → Hp → Option R) : (appendC P ts as h K).bind G = appendC P ts as h fun u h => (K u h).bind G := by
  unfold appendC
  split
  · simp only [elemC_bind, sizeC_bind, zeroC_bind, needC_bind]
    congr 1; funext e; congr 1; funext s; congr 1; funext z; congr 1; funext _
    split <;> (try rfl)
    split <;> simp only [asSliceC_bind, asStrC_bind, srcC_bind, growC_bind, Option.bind_none]
  · rfl
theorem putC_bind (h : Hp) (s : Nat) (a : Option Addr) (k : Nat) (vs : List Value) (K : Value → Hp → Option R) : (putC h s a k vs K).bind G = putC h s a k vs fun u h => (K u h).bind G := by
  unfold putC putT
  cases decide (k = 0)
  · simp only [cond_false]
    split <;> simp only [needC_bind, stC_bind, Option.bind_none]
  · rfl
theorem copyC_bind (ts : List TypeId) (as : List Value) (h : Hp) (K : Value → Hp → Option R) : (copyC P ts as h K).bind G = copyC P ts as h fun u h => (K u h).bind G := by
  unfold copyC
  split
  · simp only [elemC_bind, sizeC_bind, asSliceC_bind]
    congr 1; funext e; congr 1; funext s; congr 1; funext a n c
    split <;> simp only [asSliceC_bind, asStrC_bind, srcC_bind, putC_bind, Option.bind_none]
  · rfl
theorem lenC_bind (ts : List TypeId) (as : List Value) (h : Hp) (K : Value → Option R) : (lenC P ts as h K).bind G = lenC P ts as h fun u => (K u).bind G := by
  unfold lenC
  split
  · split <;> simp only [asStrC_bind, asSliceC_bind, asMapC_bind, Option.bind_none]
    congr 1; funext a
    split <;> (try rfl)
    split <;> rfl
  · rfl
theorem mostFrom_bind (big : Bool) (k : IntKind) : ∀ (l : List Value) (a : Int) (K : Value → Option R), (mostFrom big k a l K).bind G = mostFrom big k a l fun u => (K u).bind G
  | [], a, K => rfl
  | v :: r, a, K => by simp only [mostFrom, asIntC_bind, mostFrom_bind big k r]
theorem mostC_bind (big : Bool) (l : List Value) (K : Value → Option R) : (mostC big l K).bind G = mostC big l fun u => (K u).bind G := by
  unfold mostC; split <;> (try rfl)
  split <;> simp only [mostFrom_bind, Option.bind_none]
theorem mapTypeC_bind (t : TypeId) (K : TypeId → TypeId → Option R) : (mapTypeC P t K).bind G = mapTypeC P t fun u v => (K u v).bind G := by unfold mapTypeC; split <;> rfl
theorem mapAtC_bind (h : Hp) (x : Value) (K : List (Value × Value) → Option R) : (mapAtC h x K).bind G = mapAtC h x fun u => (K u).bind G := by
  unfold mapAtC; rw [asMapC_bind]; congr 1; funext a; split <;> (try rfl)
  split <;> rfl
theorem lkC_bind (es : List (Value × Value)) (key z : Value) (K : Value → Bool → Option R) : (lkC es key z K).bind G = lkC es key z fun u p => (K u p).bind G := by
  unfold lkC; split <;> rfl
theorem lookC_bind (t : TypeId) (x key : Value) (ok : Bool) (h : Hp) (K : Value → Option R) : (lookC P t x key ok h K).bind G = lookC P t x key ok h fun u => (K u).bind G := by
  unfold lookC
  simp only [mapTypeC_bind, needC_bind, zeroC_bind, mapAtC_bind, lkC_bind, like2C_bind]
theorem mapPutC_bind (t : TypeId) (m key v : Value) (h : Hp) (K : Hp → Option R) : (mapPutC P t m key v h K).bind G = mapPutC P t m key v h fun u => (K u).bind G := by
  unfold mapPutC
  simp only [mapTypeC_bind, needC_bind, asMapC_bind]
  congr 1; funext kt e; congr 1; funext _; congr 1; funext a
  split <;> (try rfl)
  split <;> (try rfl)
  split <;> rfl
theorem mapDropC_bind (ts : List TypeId) (as : List Value) (h : Hp) (K : Value → Hp → Option R) : (mapDropC P ts as h K).bind G = mapDropC P ts as h fun u h => (K u h).bind G := by
  unfold mapDropC
  split
  · simp only [mapTypeC_bind, needC_bind, asMapC_bind]
    congr 1; funext kt e; congr 1; funext _; congr 1; funext a
    split <;> (try rfl)
    split <;> (try rfl)
    split <;> rfl
  · rfl
theorem convC_bind (s d : TypeId) (x : Value) (h : Hp) (K : Value → Option R) : (convC P s d x h K).bind G = convC P s d x h fun u => (K u).bind G := by
  unfold convC
  split
  · split <;> rfl
  · split <;> simp only [needC_bind, Option.bind_none]
  · simp only [asStrC_bind]
  · split <;> (try rfl)
    rw [asSliceC_bind]; congr 1; funext a n _
    split <;> simp only [ldCellsC_bind]
  · rfl
theorem unC_bind (op : UnOp) (x : Value) (K : Value → Option R) : (unC op x K).bind G = unC op x fun u => (K u).bind G := by
  unfold unC; split <;> (try rfl) <;> split <;> rfl
theorem partC_bind (t : TypeId) (cs : List Value) (off : Nat) (K : Value → Option R) : (partC P t cs off K).bind G = partC P t cs off fun u => (K u).bind G := by
  unfold partC
  rw [aggC_bind]
  congr 1; funext b
  cases b
  · simp only [cond_false, zeroC_bind]; congr 1; funext z; split <;> simp only [like1C_bind, Option.bind_none]
  · simp only [cond_true, sizeC_bind]
theorem fieldC_bind (t : TypeId) (f : Nat) (K : Field → Option R) : (fieldC P t f K).bind G = fieldC P t f fun u => (K u).bind G := by
  unfold fieldC; split <;> (try rfl)
  split <;> rfl
variable (call : FuncId → List Value → Hp → Option (Value × Hp)) (H : Hint)
theorem callC_bind (f : Value) (as : List Value) (t : TypeId) (h : Hp) (K : Value → Hp → Option R) : (callC P call f as t h K).bind G = callC P call f as t h fun u h => (K u h).bind G := by
  unfold callC
  split <;> (try rfl)
  split <;> (try rfl)
  rw [Option.bind_assoc]
  congr 1; funext r
  split <;> simp only [like3C_bind]

theorem opC_bind (ev : Operand → Value) (o : Oper) (h : Hp) (K : Value → Hp → Option R) : (opC P H call ev o h K).bind G = opC P H call ev o h fun u h => (K u h).bind G := by
  unfold opC
  split <;> (first | (with_reducible rfl) | skip) <;> (try simp only [needC_bind, asIntC_bind, asBoolC_bind, asStrC_bind, asSliceC_bind, asPtrC_bind, asAggC_bind, zeroC_bind, sizeC_bind, elemC_bind, buildC_bind, binC_bind, unC_bind, convC_bind, fieldC_bind, partC_bind, lookC_bind, mapPutC_bind, mapTypeC_bind, idxC_bind, Option.bind_none])
  case h_3 => congr 1; funext t; cases t <;> rfl
  case h_7 => congr 1; funext e; congr 1; funext s; congr 1; funext _; congr 1; funext z; congr 1; funext _; split <;> rfl
  case h_8 => 
    congr 1; funext a; cases a <;> simp only [Option.bind_none, loadC_bind]
  case h_9 => congr 1; funext a; cases a <;> simp only [Option.bind_none, sizeC_bind, needC_bind, stC_bind]
  case h_10 => split <;> (try rfl); split <;> rfl
  case h_16 =>
    congr 1; funext e; split <;> simp only [zeroC_bind, Option.bind_none]
    congr 1; funext z
    split <;> (try rfl)
    split <;> simp only [needC_bind, Option.bind_none]
  case h_17 => split <;> simp only [asStrC_bind, needC_bind, sizeC_bind, asSliceC_bind, cutC_bind, Option.bind_none]
  case h_18 =>
    congr 1; funext fd; congr 1; funext s; congr 1; funext _; congr 1; funext a
    split <;> rfl
  case h_20 =>
    split <;> simp only [sizeC_bind, asSliceC_bind, asPtrC_bind, Option.bind_none]
    · congr 1; funext s; congr 1; funext a n _; split <;> simp only [idxC_bind, Option.bind_none]
    · congr 1; funext s; congr 1; funext a; split <;> simp only [idxC_bind, Option.bind_none]
  case h_21 =>
    split <;> simp only [asStrC_bind, sizeC_bind, asAggC_bind, Option.bind_none]
    · congr 1; funext s; split <;> simp only [needC_bind, Option.bind_none]
    · congr 1; funext s; congr 1; funext cs; split <;> simp only [needC_bind, partC_bind, Option.bind_none]
  case h_24 => split <;> (try rfl); split <;> rfl
  case h_25 => split <;> simp only [lenC_bind, appendC_bind, copyC_bind, mostC_bind, mapDropC_bind, Option.bind_none]
  case h_26 => simp only [callC_bind]
end
end Go.Proofs.Ytcdeeppiljcddaa.AM
