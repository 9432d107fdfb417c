/- AM, the twenty-second part: typed forms of what the evaluator asks, and places in code. Conditions: none. -/
import Derived.Test.YtcdeeppiljcddaaAm21
import Derived.KernelRfl
namespace Go.Proofs.Ytcdeeppiljcddaa.AM
open Go
section
variable {R : Type}
def lt {α : Type} (x : α) (f : α → Option R) : Option R := f x
def someC (a : Option Addr) (K : Addr → Option R) : Option R := match a with | some ad => K ad | none => none
def ldI (h : Hp) (k : IntKind) (a : Addr) (K : Int → Option R) : Option R := match h.cell a with | some v => asIntC k v K | none => none
def ldB (h : Hp) (a : Addr) (K : Bool → Option R) : Option R := match h.cell a with | some v => asBoolC v K | none => none
def ldS (h : Hp) (a : Addr) (K : ByteArray → Option R) : Option R := match h.cell a with | some v => asStrC v K | none => none
def ldSl (h : Hp) (a : Addr) (K : Option Addr → Nat → Nat → Option R) : Option R := match h.cell a with | some v => asSliceC v K | none => none
def ldP (h : Hp) (a : Addr) (K : Option Addr → Option R) : Option R := match h.cell a with | some v => asPtrC v K | none => none
def ldM (h : Hp) (a : Addr) (K : Option Nat → Option R) : Option R := match h.cell a with | some v => asMapC v K | none => none
def ldV (h : Hp) (a : Addr) (K : Value → Option R) : Option R := match h.cell a with | some v => K v | none => none
def atC (a : Option Addr) (n s : Nat) (i : Int) (K : Addr → Option R) : Option R :=
  needC (decide (0 ≤ i) && decide (i < (n : Int))) fun _ => match a with
    | some ad => K (ad.add (i.toNat * s))
    | none => none
def runC (o : Option (Value × Hp)) (K : Value → Hp → Option R) : Option R := o.bind fun r => K r.1 r.2
def tupC (v : Value) (K : List Value → Option R) : Option R := match v with | .tuple vs => K vs.toList | _ => none
def mkC (h : Hp) (z : Value) (s bytes : Nat) (n m : Int) (K : Option Addr → Nat → Nat → Hp → Option R) : Option R :=
  needC (decide (0 ≤ n) && decide (n ≤ m) && decide (m * (bytes + 1) ≤ 70368744177664) && decide (z.cells.size = s)) fun _ =>
    K (some ⟨h.next, 0, none⟩) n.toNat 0 (h.alloc (zerosOf z (n.toNat * s)) s [])
def subC (s : ByteArray) (lo hi : Option Int) (K : ByteArray → Option R) : Option R :=
  needC (decide (0 ≤ lo.getD 0) && decide (lo.getD 0 ≤ hi.getD s.size) && decide (hi.getD s.size ≤ (s.size : Int))) fun _ =>
    K (s.extract (lo.getD 0).toNat (hi.getD s.size).toNat)
def byteC (s : ByteArray) (j : Int) (K : Int → Option R) : Option R :=
  needC (decide (0 ≤ j) && decide (j < (s.size : Int))) fun _ => K (s[j.toNat]!).toNat
def pickC (cs : List Value) (off : Nat) (K : Value → Option R) : Option R := match cs[off]? with | some v => K v | none => none
def inC (j : Int) (n : Nat) (K : Option R) : Option R := needC (decide (0 ≤ j) && decide (j < (n : Int))) fun _ => K
def mapLenC (h : Hp) (a : Option Nat) (K : Int → Option R) : Option R :=
  match a with
  | none => K 0
  | some r => match h.maps r with
    | some es => K es.length
    | none => none
def mapSetC (h : Hp) (a : Option Nat) (key v : Value) (K : Hp → Option R) : Option R :=
  match a with
  | none => none
  | some r => match h.maps r with
    | some es => match keyLook es key with
      | some _ => K (h.putMap r (keyPut es key v))
      | none => none
    | none => none
def strB (s : ByteArray) : Nat := s.size
def shlI (k : IntKind) (a b : Int) : Int := k.wrap (a * 2 ^ (min b.toNat k.bits))
def shrI (k : IntKind) (a b : Int) : Int := a.fdiv (2 ^ (min b.toNat k.bits))
def catC (a b : ByteArray) (K : ByteArray → Option R) : Option R := needC (decide (a.size + b.size ≤ 9223372036854775807)) fun _ => K (a ++ b)
end

inductive Stp where
  | fst | snd | yes | no | blk | lp
def bodyOf (fn : Func) : Code := match fn.body with | some c => c | none => .skip
def nav : List Stp → Code → Code
  | [], c => c
  | .fst :: p, .seq a _ => nav p a
  | .snd :: p, .seq _ b => nav p b
  | .yes :: p, .cond _ a _ => nav p a
  | .no :: p, .cond _ _ b => nav p b
  | .blk :: p, .block _ b => nav p b
  | .lp :: p, .loop b => nav p b
  | _, c => c
section
variable (P : Program) (H : Hint)
noncomputable def ctxK {R : Type} (f : FuncId) (nt : Nat) : List Stp → Code → (Ex → Env → Hp → Option R) → Ex → Env → Hp → Option R
  | [], _, K => K
  | .fst :: p, .seq a b, K => ctxK f nt p a (seqK (fun e' h' => codeC P H (arun P H) f nt b R (maskE H f b e') h' K) K)
  | .snd :: p, .seq _ b, K => ctxK f nt p b K
  | .yes :: p, .cond _ a _, K => ctxK f nt p a K
  | .no :: p, .cond _ _ b, K => ctxK f nt p b K
  | .blk :: p, .block id b, K => ctxK f nt p b (blockK id K)
  | .lp :: p, .loop b, K => ctxK f nt p b (seqK (fun e' h' => codeC P H (arun P H) f nt (.loop b) R (maskE H f b e') h' K) K)
  | _, _, K => K
noncomputable def atP (f : FuncId) (fn : Func) (nt : Nat) (p : List Stp) (e : Env) (h : Hp) : Option (Value × Hp) :=
  codeC P H (arun P H) f nt (nav p (bodyOf fn)) (Value × Hp) e h (ctxK P H f nt p (bodyOf fn) (resK P fn))
theorem atP_loop {f : FuncId} {fn : Func} {nt : Nat} {p : List Stp} {e : Env} {h : Hp} {b : Code} (hb : nav p (bodyOf fn) = .loop b) :
    atP P H f fn nt p e h = codeC P H (arun P H) f nt b (Value × Hp) (maskE H f b e) h (seqK (fun e' h' => codeC P H (arun P H) f nt (.loop b) (Value × Hp) (maskE H f b e') h' (ctxK P H f nt p (bodyOf fn) (resK P fn))) (ctxK P H f nt p (bodyOf fn) (resK P fn))) := by
  unfold atP
  rw [hb, loop_eq]
end
end Go.Proofs.Ytcdeeppiljcddaa.AM
