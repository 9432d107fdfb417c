/- AM, the third part: regions, code, calls, and their equations. Conditions: none. -/
import Derived.Test.YtcdeeppiljcddaaAm2
namespace Go.Proofs.Ytcdeeppiljcddaa.AM
open Go

/-- The least value that ever comes. -/
noncomputable def lfp {α : Type} (F : Nat → Option α) : Option α :=
  open Classical in if h : ∃ n v, F n = some v then F h.choose else none

theorem lfp_eq {α : Type} {F : Nat → Option α} (hm : ∀ n v, F n = some v → F (n + 1) = some v) {n : Nat} {v : α} (h : F n = some v) : lfp F = some v := by
  have up : ∀ d m u, F m = some u → F (m + d) = some u := by
    intro d
    induction d with
    | zero => intro m u hu; exact hu
    | succ d ih => intro m u hu; exact hm _ _ (ih _ _ hu)
  have hx : ∃ n v, F n = some v := ⟨n, v, h⟩
  unfold lfp
  rw [dif_pos hx]
  obtain ⟨u, hu⟩ := hx.choose_spec
  rw [hu]
  have a := up n hx.choose u hu
  have b := up hx.choose n v h
  rw [Nat.add_comm] at b
  rw [a] at b
  exact b
theorem lfp_some {α : Type} {F : Nat → Option α} {v : α} (h : lfp F = some v) : ∃ n, F n = some v := by
  unfold lfp at h
  split at h
  · exact ⟨_, h⟩
  · cases h

inductive Cls where
  | pure | reads | acts
def cls (o : Oper) : Cls :=
  match o.op with
  | .move _ | .assign _ | .pick .. | .build .. | .nilCheck _ | .binOp .. | .unOp .. | .makeFunc .. | .fieldAddr .. | .field .. | .indexAddr .. | .index .. | .extract .. => .pure
  | .convert .. => .reads
  | .load .. | .lookup .. | .slice .. => .reads
  | .call { callee := .builtin b, .. } => match b with
    | .len => .reads
    | .min | .max => .pure
    | _ => .acts
  | _ => .acts
def actsB (o : Oper) : Bool := match cls o with | .acts => true | _ => false
def readsB (o : Oper) : Bool := match cls o with | .reads => true | _ => false
/-- May stand beside a reader without an order: it makes new memory alone. -/
def makesB (o : Oper) : Bool :=
  match o.op with
  | .alloc _ | .box .. | .buildSlice .. | .makeSlice .. | .makeMap .. => true
  | .call { callee := .builtin .append, .. } => true
  | .call { callee := .value _, .. } => true
  | _ => false
def callB (o : Oper) : Bool := match o.op with | .call { callee := .value _, .. } => true | _ => false

def idxPairs (n : Nat) : List (Nat × Nat) := (List.range n).flatMap fun j => (List.range j).map fun i => (i, j)
/-- A region whose order is open: whatever is not ordered may go either way. -/
def okDraw (ops : Array Oper) : Bool :=
  (ops.toList.zipIdx.all fun (o, i) => o.after.toList.all fun e => !Region.binds .any e || decide (e.on < i)) &&
  (let b := Region.before ops
   (idxPairs ops.size).all fun (i, j) => match ops[i]?, ops[j]? with
     | some x, some y => (b.getD j 0).testBit i || (x.apart ops y && !(actsB x && actsB y) && (!(readsB x && actsB y) || makesB y) && (!(actsB x && readsB y) || makesB x))
     | _, _ => false)
/-- How many acting operations stand ahead of operation i. -/
def actsAhead (ops : Array Oper) (i : Nat) : Nat :=
  ((List.range ops.size).filter fun j => ((Region.before ops).getD i 0).testBit j && ((ops[j]?).map actsB).getD false).length
/-- Is operation j a call, and some reader not ordered with it? -/
def besideRead (ops : Array Oper) (j : Nat) : Bool :=
  ((ops[j]?).map callB).getD false && (List.range ops.size).any fun i => ((ops[i]?).map readsB).getD false && !((Region.before ops).getD j 0).testBit i && !((Region.before ops).getD i 0).testBit j

def operandOk : Operand → Bool
  | .const v => plainC v
  | .global _ => false
  | _ => true
def dstsOk (nt : Nat) (ops : Array Oper) : Bool := ops.toList.all fun o => (match o.dst with | some d => decide (d < nt) | none => true) && o.op.operands.toList.all operandOk

inductive Ex where
  | normal
  | exit (id : Nat)
  | ret

section
variable (P : Program) (H : Hint) (call : FuncId → List Value → Hp → Option (Value × Hp))

def guardC {R : Type} (ops : Array Oper) (o : Oper) (e : Env) (yes no : Env → Option R) : Option R :=
  match o.guard with
  | none => yes e
  | some (g, want) => match (ops[g]?).bind (·.dst) with
    | some d => match e.get d with
      | .bool b => match b with
        | true => match want with | true => yes ((d, .bool true) :: e) | false => no ((d, .bool true) :: e)
        | false => match want with | true => no ((d, .bool false) :: e) | false => yes ((d, .bool false) :: e)
      | .tuple vs => bif vs.isEmpty then no e else none
      | _ => none
    | none => none

def opsC {R : Type} (ops : Array Oper) : List Oper → Env → Hp → (Env → Hp → Option R) → Option R
  | [], e, h, K => K e h
  | o :: rest, e, h, K => guardC ops o e
      (fun e => opC P H call e.eval o h fun v h' => opsC ops rest (e.put o.dst v) h' K)
      (fun e => opsC ops rest (e.put o.dst undef) h K)

def drawC {R : Type} (ops : Array Oper) : List Oper → Nat → Env → Hp → List Hp → (Env → Hp → Option R) → Option R
  | [], _, e, h, _, K => K e h
  | o :: rest, i, e, h, hs, K => guardC ops o e
      (fun e => match cls o with
        | .pure => opC P H call e.eval o h fun v _ => drawC ops rest (i + 1) (e.put o.dst v) h hs K
        | .reads => opC P H call e.eval o (hs.getD (actsAhead ops i) h) fun v _ => drawC ops rest (i + 1) (e.put o.dst v) h hs K
        | .acts => bif besideRead ops i then
            opC P H call e.eval o { h with low := h.next } fun v h' => needC (decide (h.next ≤ h'.low)) fun _ => drawC ops rest (i + 1) (e.put o.dst v) { h' with low := h.low } (hs ++ [{ h' with low := h.low }]) K
          else opC P H call e.eval o h fun v h' => drawC ops rest (i + 1) (e.put o.dst v) h' (hs ++ [h']) K)
      (fun e => drawC ops rest (i + 1) (e.put o.dst undef) h (bif actsB o then hs ++ [h] else hs) K)

def firstId : Code → Option Nat
  | .region id _ _ => some id
  | .seq a _ => firstId a
  | .block _ b => firstId b
  | .loop b => firstId b
  | _ => none
def maskE (f : FuncId) (c : Code) (e : Env) : Env :=
  match firstId c with
  | some id => match H.keep f id with
    | some l => e.keep l
    | none => e
  | none => e

def seqK {R : Type} (next : Env → Hp → Option R) (K : Ex → Env → Hp → Option R) : Ex → Env → Hp → Option R
  | .normal, e, h => next e h
  | .exit i, e, h => K (.exit i) e h
  | .ret, e, h => K .ret e h
def blockK {R : Type} (id : Nat) (K : Ex → Env → Hp → Option R) : Ex → Env → Hp → Option R
  | .normal, e, h => K .normal e h
  | .exit i, e, h => bif i == id then K .normal e h else K (.exit i) e h
  | .ret, e, h => K .ret e h

abbrev Out := Ex × Env × Hp
def loopN (D : Env → Hp → Option Out) (m : Env → Env) : Nat → Env → Hp → Option Out
  | 0, _, _ => none
  | n + 1, e, h => (D (m e) h).bind fun r => match r with
    | (.normal, e', h') => loopN D m n e' h'
    | r => some r
noncomputable def loopD (D : Env → Hp → Option Out) (m : Env → Env) (e : Env) (h : Hp) : Option Out := lfp fun n => loopN D m n e h

noncomputable def codeC (f : FuncId) (nt : Nat) : Code → (R : Type) → Env → Hp → (Ex → Env → Hp → Option R) → Option R
  | .skip, _, e, h, K => K .normal e h
  | .label _, _, e, h, K => K .normal e h
  | .exit id, _, e, h, K => K (.exit id) e h
  | .ret, _, e, h, K => K .ret e h
  | .region _ ops draw, _, e, h, K => bif dstsOk nt ops then
      (bif draw then (bif okDraw ops then drawC P H call ops ops.toList 0 e h [h] (K .normal) else none)
      else opsC P H call ops ops.toList e h (K .normal)) else none
  | .seq a b, R, e, h, K => codeC f nt a R e h (seqK (fun e' h' => codeC f nt b R (maskE H f b e') h' K) K)
  | .cond c a b, R, e, h, K => match c with
    | .tmp t => match e.get t with
      | .bool v => match v with
        | true => codeC f nt a R ((t, .bool true) :: e) h K
        | false => codeC f nt b R ((t, .bool false) :: e) h K
      | _ => none
    | .const (.bool v) => match v with
      | true => codeC f nt a R e h K
      | false => codeC f nt b R e h K
    | _ => none
  | .block id b, R, e, h, K => codeC f nt b R e h (blockK id K)
  | .loop b, _, e, h, K => (loopD (fun e h => codeC f nt b Out e h fun ex e h => some (ex, e, h)) (maskE H f b) e h).bind fun r => K r.1 r.2.1 r.2.2
  | _, _, _, _, _ => none

def resC {R : Type} (h : Hp) (e : Env) : List ResultVar → (List Value → Option R) → Option R
  | [], K => K []
  | .tmp t :: rs, K => resC h e rs fun vs => K (e.get t :: vs)
  | .cell a t :: rs, K => asPtrC (e.get a) fun p => match p with
    | some ad => loadC P h t ad fun u => resC h e rs fun vs => K (u :: vs)
    | none => none
def resK (fn : Func) : Ex → Env → Hp → Option (Value × Hp)
  | .exit _, _, _ => none
  | .normal, e, h => resC P h e fn.results.toList fun vs => match vs with | [v] => some (v, h) | vs => some (.tuple vs.toArray, h)
  | .ret, e, h => resC P h e fn.results.toList fun vs => match vs with | [v] => some (v, h) | vs => some (.tuple vs.toArray, h)

def envFrom : List Value → Nat → Env
  | [], _ => []
  | v :: vs, i => (i, v) :: envFrom vs (i + 1)

noncomputable def funC (f : FuncId) (args : List Value) (h : Hp) : Option (Value × Hp) :=
  match P.funcs[f]? with
  | some fn => match fn.body with
    | some c => bif fn.name == "runtime.NumGoroutine" then none else codeC P H call f (max args.length fn.ntmps) c (Value × Hp) (envFrom args 0) h (resK P fn)
    | none => none
  | none => none
end

noncomputable def aN (P : Program) (H : Hint) : Nat → FuncId → List Value → Hp → Option (Value × Hp)
  | 0 => fun _ _ _ => none
  | k + 1 => funC P H (aN P H k)
/-- What a call comes to. -/
noncomputable def arun (P : Program) (H : Hint) (f : FuncId) (args : List Value) (h : Hp) : Option (Value × Hp) := lfp fun k => aN P H k f args h
end Go.Proofs.Ytcdeeppiljcddaa.AM
