/- Merged: Vm23 Vm24 Vm25 Vm26 Vm27. Conditions: none. -/
import Derived.Test.YtemdhiejbncafaaVmC
import Derived.Test.YtemdhiejbncafaaAmD
import Derived.Lib.Bytealg
set_option linter.all false
section
namespace Go.Proofs.Ytemdhiejbncafaa.VM
open Go AM
set_option linter.unusedSectionVars false
set_option linter.unusedSimpArgs false
set_option linter.unusedVariables false
section
variable (P : Program) (H : Hint)
noncomputable def ctxV {R : Type} (f w nt : Nat) : List Stp → Code → (Ex → Env → St → Option R) → Ex → Env → St → Option R
  | [], _, K => K
  | .fst :: p, .seq a b, K => ctxV f w nt p a (seqV (fun e' h' => normE H f w b e' h' fun e' h' => codeV P H (vrun P H) f w nt R K e' h' b) K)
  | .snd :: p, .seq _ b, K => ctxV f w nt p b K
  | .yes :: p, .cond _ a _, K => ctxV f w nt p a K
  | .no :: p, .cond _ _ b, K => ctxV f w nt p b K
  | .blk :: p, .block id b, K => ctxV f w nt p b (blockV id K)
  | .blk :: p, .scope b, K => ctxV f w nt p b K
  | .lp :: p, .loop b, K => ctxV f w nt p b (seqV (fun e' h' => normE H f w b e' h' fun e' h' => codeV P H (vrun P H) f w nt R K e' h' (.loop b)) K)
  | _, _, K => K
/-- What comes from a place in a function's code on. -/
noncomputable def atV (f w : Nat) (fn : Func) (nt : Nat) (p : List Stp) (e : Env) (h : St) : Option (V × St) :=
  codeV P H (vrun P H) f w nt (V × St) (ctxV P H f w nt p (bodyOf fn) (resKV P fn (H.own f w))) e h (nav p (bodyOf fn))
theorem atV_loop {f w : Nat} {fn : Func} {nt : Nat} {p : List Stp} {e : Env} {h : St} {b : Code} (hb : nav p (bodyOf fn) = .loop b) (hr : rounds H f w b = 0) :
    atV P H f w fn nt p e h = codeV P H (vrun P H) f w nt (V × St) (seqV (fun e' h' => normE H f w b e' h' fun e' h' => codeV P H (vrun P H) f w nt (V × St) (ctxV P H f w nt p (bodyOf fn) (resKV P fn (H.own f w))) e' h' (.loop b)) (ctxV P H f w nt p (bodyOf fn) (resKV P fn (H.own f w)))) e h b := by
  unfold atV
  rw [hb, loopV_eq P H _ f w nt b hr]
end
end Go.Proofs.Ytemdhiejbncafaa.VM
end

section
namespace Go.Proofs.Ytemdhiejbncafaa.VM
set_option linter.unusedVariables false
set_option linter.unusedSimpArgs false
set_option linter.unusedSectionVars false
open Go AM
section
variable {R : Type}
def asI (k : IntKind) (x : T) (K : Int → Option R) : Option R := match x with | .int k' n => bif decide (k' = k) then K n else none | _ => none
def asB (x : T) (K : Bool → Option R) : Option R := match x with | .bool b => K b | _ => none
def asS (x : T) (K : ByteArray → Option R) : Option R := match x with | .str b => K b | _ => none
def asL (s : Nat) (x : T) (K : Bool → List T → Option R) : Option R := match x with | .list s' nn l => bif s' == s then K nn l else none | _ => none
def asA (x : T) (K : List T → Option R) : Option R := match x with | .agg cs => K cs | _ => none
def consT (l : List T) (K : T → List T → Option R) : Option R := match l with | x :: xs => K x xs | [] => none
def endT (l : List T) (K : Option R) : Option R := match l with | [] => K | _ :: _ => none
def asT (v : V) (K : T → Option R) : Option R := match v with | .t x => K x | _ => none
def asTup (v : V) (K : List V → Option R) : Option R := match v with | .tup x => K x | _ => none
def consV (l : List V) (K : V → List V → Option R) : Option R := match l with | x :: xs => K x xs | [] => none
def endV (l : List V) (K : Option R) : Option R := match l with | [] => K | _ :: _ => none
def endB (l : Bs) (K : Option R) : Option R := match l with | [] => K | _ :: _ => none
def consB (i : Nat) (l : Bs) (K : Blk → Bs → Option R) : Option R := match l with | (j, b) :: bs => bif j == i then K b bs else none | [] => none
def asArr (s : Nat) (b : Blk) (K : Bool → List T → Option R) : Option R := match b with | .arr own sz nn l => bif own && sz == s then K nn l else none | _ => none
def asAv (b : Blk) (K : List T → Option R) : Option R := match b with | .av l => K l | _ => none
def asMp (b : Blk) (K : List (T × T) → Option R) : Option R := match b with | .map l => K l | _ => none
def asVar (b : Blk) (K : List V → Option R) : Option R := match b with | .var l => K l | _ => none
def isBuf (id : Nat) (v : V) (K : Option R) : Option R := match v with | .buf id' => bif id' == id then K else none | _ => none
def isMap (id : Nat) (v : V) (K : Option R) : Option R := match v with | .map id' => bif id' == id then K else none | _ => none
def isPtr (id i o : Nat) (v : V) (K : Option R) : Option R := match v with | .ptr id' i' o' => bif id' == id && i' == i && o' == o then K else none | _ => none
def isNil (v : V) (K : Option R) : Option R := match v with | .con u => (match u with | .pointer a => (match a with | none => K | some _ => none) | _ => none) | _ => none
def callK (o : Option (V × St)) (K : V → Bs → Option R) : Option R := o.bind fun r => K r.1 r.2.blks
def subS (s : ByteArray) (lo hi : Option Int) (K : ByteArray → Option R) : Option R :=
  needC (decide (0 ≤ lo.getD 0) && decide (lo.getD 0 ≤ hi.getD s.size) && decide (hi.getD s.size ≤ (s.size : Int))) fun _ => K (s.extract (lo.getD 0).toNat (hi.getD s.size).toNat)
def putC (es : List (T × T)) (k x : T) (K : List (T × T) → Option R) : Option R := match lookT es k with | some _ => K (putT es k x) | none => none
def delC (es : List (T × T)) (k : T) (K : List (T × T) → Option R) : Option R := match lookT es k with | some _ => K (dropT es k) | none => none
end
def look2 {A : Type} : List (Nat × Nat × A) → Nat → Nat → Option A
  | [], _, _ => none
  | (a, b, x) :: l, f, w => bif a == f && b == w then some x else look2 l f w
def look1 {A : Type} : List (Nat × A) → Nat → Option A
  | [], _ => none
  | (a, x) :: l, f => bif a == f then some x else look1 l f
/-- strings.IndexByte. -/
def ovIndex (as : List V) : Option V :=
  match as with
  | [.t (.str s), .t (.int .u8 c)] => some (.t (.int .i64 (Lib.indexByte s.data.toList c.toNat.toUInt8)))
  | _ => none
def ovIndexA (as : List Value) : Option Value :=
  match as with
  | [.string s, .int .u8 c] => some (.int .i64 (Lib.indexByte s.data.toList c.toNat.toUInt8))
  | _ => none
def mkHint (eqt : List (Nat × List Value)) (norm : List (Nat × Nat × List (Nat × Norm))) (call : List (Nat × Nat × List (Nat × Nat × CallH))) (own : List (Nat × List Nat)) (unroll : List (Nat × Nat × Nat)) (ov : List Nat) : Hint where
  eqt := look1 eqt
  norm := fun f w rid => match look2 norm f w with | some l => look1 l rid | none => none
  call := fun f w rid idx => match look2 call f w with | some l => look2 l rid idx | none => none
  own := fun f _ => match look1 own f with | some l => l | none => []
  unroll := fun f _ rid => match look2 unroll f rid with | some n => n | none => 0
  isOv := fun f => ov.contains f
  ov := fun _ as => ovIndex as
end Go.Proofs.Ytemdhiejbncafaa.VM
end

section
namespace Go.Proofs.Ytemdhiejbncafaa.VM
set_option linter.unusedSimpArgs false
open Go AM
set_option linter.unusedSectionVars false
set_option linter.unusedVariables false
abbrev Res := V × St
abbrev Tab := List (List Stp × (Env → St → Option Res))
def eqS : Stp → Stp → Bool
  | .fst, .fst => true
  | .snd, .snd => true
  | .yes, .yes => true
  | .no, .no => true
  | .blk, .blk => true
  | .lp, .lp => true
  | _, _ => false
def eqP : List Stp → List Stp → Bool
  | [], [] => true
  | a :: p, b :: q => match eqS a b with | true => eqP p q | false => false
  | _, _ => false
theorem eqS_eq : ∀ {a b : Stp}, eqS a b = true → a = b := by intro a b; cases a <;> cases b <;> simp [eqS]
theorem eqP_eq : ∀ {p q : List Stp}, eqP p q = true → p = q
  | [], [], _ => rfl
  | a :: p, b :: q, h => by
    rw [eqP] at h
    split at h
    · rename_i h1
      rw [eqS_eq h1, eqP_eq h]
    · cases h
  | [], _ :: _, h => nomatch h
  | _ :: _, [], h => nomatch h
/-- Paths are told from their end. -/
def lookP : Tab → List Stp → Option (Env → St → Option Res)
  | [], _ => none
  | (q, J) :: T, p => match eqP q p with | true => some J | false => lookP T p
section
variable (P : Program) (H : Hint)
noncomputable def codeT (f w nt : Nat) (T : Tab) : List Stp → (Ex → Env → St → Option Res) → Env → St → Code → Option Res
  | p, K, e, st, .seq a b => codeT f w nt T (.fst :: p) (seqV (fun e st => match lookP T (.snd :: p) with
      | some J => J (nrm H f w b e st).1 (nrm H f w b e st).2
      | none => codeT f w nt T (.snd :: p) K (nrm H f w b e st).1 (nrm H f w b e st).2 b) K) e st a
  | p, K, e, st, .cond c a b => match c with
    | .tmp t => match e.get t with
      | .t x => match x with
        | .bool v => match v with
          | true => codeT f w nt T (.yes :: p) K (nrm H f w a ((t, .t (.bool true)) :: e) st).1 (nrm H f w a ((t, .t (.bool true)) :: e) st).2 a
          | false => codeT f w nt T (.no :: p) K (nrm H f w b ((t, .t (.bool false)) :: e) st).1 (nrm H f w b ((t, .t (.bool false)) :: e) st).2 b
        | _ => none
      | _ => none
    | .const (.bool v) => match v with
      | true => codeT f w nt T (.yes :: p) K (nrm H f w a e st).1 (nrm H f w a e st).2 a
      | false => codeT f w nt T (.no :: p) K (nrm H f w b e st).1 (nrm H f w b e st).2 b
    | _ => none
  | p, K, e, st, .block id b => codeT f w nt T (.blk :: p) (blockV id K) e st b
  | p, K, e, st, .scope b => codeT f w nt T (.blk :: p) K e st b
  | p, K, e, st, .loop b => match lookP T p with
    | some J => J e st
    | none => codeV P H (vrun P H) f w nt Res K e st (.loop b)
  | _, K, e, st, .skip => K .normal e st
  | _, K, e, st, .label _ => K .normal e st
  | _, K, e, st, .exit id => K (.exit id) e st
  | _, K, e, st, .ret => K .ret e st
  | _, K, e, st, .region rid ops draw => codeV P H (vrun P H) f w nt Res K e st (.region rid ops draw)
  | _, K, e, st, c => codeV P H (vrun P H) f w nt Res K e st c

/-- Places, by their paths (told from the end). -/
noncomputable def placesT (f w : Nat) (fn : Func) (nt : Nat) : List (List Stp) → Tab
  | [] => []
  | p :: ps => (p, fun e st => atV P H f w fn nt p.reverse e st) :: placesT f w fn nt ps
theorem lookP_places {f w : Nat} {fn : Func} {nt : Nat} {J : Env → St → Option Res} {p : List Stp} : ∀ {ps : List (List Stp)}, lookP (placesT P H f w fn nt ps) p = some J → J = fun e st => atV P H f w fn nt p.reverse e st
  | [], h => nomatch h
  | q :: ps, h => by
    rw [placesT, lookP] at h
    split at h
    · rename_i h1
      cases h
      rw [eqP_eq h1]
    · exact lookP_places h
theorem codeT_ok {f w : Nat} {fn : Func} {nt : Nat} (ps : List (List Stp)) (c : Code) : ∀ (p : List Stp) (K : Ex → Env → St → Option Res) (e : Env) (st : St),
    (∀ q, ctxV P H f w nt (p.reverse ++ q) (bodyOf fn) (resKV P fn (H.own f w)) = ctxV P H f w nt q c K) → (∀ q, nav (p.reverse ++ q) (bodyOf fn) = nav q c) →
    codeT P H f w nt (placesT P H f w fn nt ps) p K e st c = codeV P H (vrun P H) f w nt Res K e st c := by
  have leaf : ∀ (c : Code) (p : List Stp) (K : Ex → Env → St → Option Res) (J : Env → St → Option Res), (∀ q, ctxV P H f w nt (p.reverse ++ q) (bodyOf fn) (resKV P fn (H.own f w)) = ctxV P H f w nt q c K) → (∀ q, nav (p.reverse ++ q) (bodyOf fn) = nav q c) →
      lookP (placesT P H f w fn nt ps) p = some J → ∀ e st, J e st = codeV P H (vrun P H) f w nt Res K e st c := by
    intro c p K J h1 h2 h e st
    rw [lookP_places P H h]
    unfold atV
    have h1 := h1 []
    have h2 := h2 []
    rw [List.append_nil] at h1 h2
    rw [h1, h2]
    rfl
  induction c with
  | seq a b iha ihb =>
    intro p K e st h1 h2
    have hb1 : ∀ q, ctxV P H f w nt ((Stp.snd :: p).reverse ++ q) (bodyOf fn) (resKV P fn (H.own f w)) = ctxV P H f w nt q b K := fun q => by
      rw [List.reverse_cons, List.append_assoc]; exact h1 _
    have hb2 : ∀ q, nav ((Stp.snd :: p).reverse ++ q) (bodyOf fn) = nav q b := fun q => by rw [List.reverse_cons, List.append_assoc]; exact h2 _
    have hk : (fun e st => match lookP (placesT P H f w fn nt ps) (.snd :: p) with
      | some J => J (nrm H f w b e st).1 (nrm H f w b e st).2
      | none => codeT P H f w nt (placesT P H f w fn nt ps) (.snd :: p) K (nrm H f w b e st).1 (nrm H f w b e st).2 b) = fun e' st' => normE H f w b e' st' fun e' st' => codeV P H (vrun P H) f w nt Res K e' st' b := by
      funext e st
      split
      · rename_i J hJ
        exact leaf b _ K J hb1 hb2 hJ _ _
      · exact ihb _ K _ _ hb1 hb2
    unfold codeT codeV
    rw [hk]
    exact iha _ _ e st (fun q => by rw [List.reverse_cons, List.append_assoc]; exact h1 _) (fun q => by rw [List.reverse_cons, List.append_assoc]; exact h2 _)
  | cond x a b iha ihb =>
    intro p K e st h1 h2
    have ha : ∀ e st, codeT P H f w nt (placesT P H f w fn nt ps) (.yes :: p) K e st a = codeV P H (vrun P H) f w nt Res K e st a := fun e st =>
      iha _ K e st (fun q => by rw [List.reverse_cons, List.append_assoc]; exact h1 _) (fun q => by rw [List.reverse_cons, List.append_assoc]; exact h2 _)
    have hb : ∀ e st, codeT P H f w nt (placesT P H f w fn nt ps) (.no :: p) K e st b = codeV P H (vrun P H) f w nt Res K e st b := fun e st =>
      ihb _ K e st (fun q => by rw [List.reverse_cons, List.append_assoc]; exact h1 _) (fun q => by rw [List.reverse_cons, List.append_assoc]; exact h2 _)
    unfold codeT codeV
    simp only [ha, hb]
    rfl
  | block id b ih =>
    intro p K e st h1 h2
    unfold codeT codeV
    exact ih _ _ e st (fun q => by rw [List.reverse_cons, List.append_assoc]; exact h1 _) (fun q => by rw [List.reverse_cons, List.append_assoc]; exact h2 _)
  | scope b ih =>
    intro p K e st h1 h2
    unfold codeT codeV
    exact ih _ _ e st (fun q => by rw [List.reverse_cons, List.append_assoc]; exact h1 _) (fun q => by rw [List.reverse_cons, List.append_assoc]; exact h2 _)
  | loop b ih =>
    intro p K e st h1 h2
    unfold codeT
    split
    · rename_i J hJ
      exact leaf _ p K J h1 h2 hJ e st
    · rfl
  | skip => intros; rfl
  | label => intros; rfl
  | exit => intros; rfl
  | ret => intros; rfl
  | region => intros; rfl
  | rangeFunc => intros; rfl
  | goto => intros; rfl
  | refuse => intros; rfl

/-- A call, up to its places. -/
theorem call_eq {f w : Nat} {fn : Func} {nt : Nat} {T : Tab} (ps : List (List Stp)) (hT : T = placesT P H f w fn nt ps) (args : List V) (h : St) (hf : P.funcs[f]? = some fn) (hc : fn.body.isSome = true) (hn : (fn.name == "runtime.NumGoroutine") = false) (ho : H.isOv f = false) (hnt : max args.length fn.ntmps = nt) :
    vrun P H f w args h = codeT P H f w nt T [] (resKV P fn (H.own f w)) (nrm H f w (bodyOf fn) (envV args 0) h).1 (nrm H f w (bodyOf fn) (envV args 0) h).2 (bodyOf fn) := by
  obtain ⟨c, hc⟩ := Option.isSome_iff_exists.1 hc
  have hb : bodyOf fn = c := by unfold bodyOf; rw [hc]
  subst hT
  rw [vrun_eq P H hf hc hn ho, hnt, codeT_ok P H ps (bodyOf fn) [] _ _ _ (fun q => rfl) (fun q => rfl), hb]

def okP : List Stp → Code → Bool
  | [], _ => true
  | .fst :: p, .seq a _ => okP p a
  | .snd :: p, .seq _ b => okP p b
  | .yes :: p, .cond _ a _ => okP p a
  | .no :: p, .cond _ _ b => okP p b
  | .blk :: p, .block _ b => okP p b
  | .blk :: p, .scope b => okP p b
  | .lp :: p, .loop b => okP p b
  | _, _ => false
theorem nav_app : ∀ (p q : List Stp) (c : Code), okP p c = true → nav (p ++ q) c = nav q (nav p c)
  | [], q, c, h => by cases c <;> rfl
  | s :: p, q, c, h => by cases s <;> cases c <;> first | exact nav_app p q _ h | (cases h)
theorem ctx_app {f w nt : Nat} : ∀ (p q : List Stp) (c : Code) (K : Ex → Env → St → Option Res), okP p c = true → ctxV P H f w nt (p ++ q) c K = ctxV P H f w nt q (nav p c) (ctxV P H f w nt p c K)
  | [], q, c, K, h => by cases c <;> rfl
  | s :: p, q, c, K, h => by cases s <;> cases c <;> first | exact ctx_app p q _ _ h | (cases h)
theorem okP_snoc : ∀ (p q : List Stp) (c : Code), okP p c = true → okP q (nav p c) = true → okP (p ++ q) c = true
  | [], q, c, h, h2 => by cases c <;> exact h2
  | s :: p, q, c, h, h2 => by cases s <;> cases c <;> first | exact okP_snoc p q _ h h2 | (cases h)

/-- What follows a place, up to the places. -/
noncomputable def ctxT (f w nt : Nat) (T : Tab) : List Stp → List Stp → Code → (Ex → Env → St → Option Res) → Ex → Env → St → Option Res
  | _, [], _, K => K
  | r, .fst :: p, .seq a b, K => ctxT f w nt T (.fst :: r) p a (seqV (fun e st => match lookP T (.snd :: r) with
      | some J => J (nrm H f w b e st).1 (nrm H f w b e st).2
      | none => codeT P H f w nt T (.snd :: r) K (nrm H f w b e st).1 (nrm H f w b e st).2 b) K)
  | r, .snd :: p, .seq _ b, K => ctxT f w nt T (.snd :: r) p b K
  | r, .yes :: p, .cond _ a _, K => ctxT f w nt T (.yes :: r) p a K
  | r, .no :: p, .cond _ _ b, K => ctxT f w nt T (.no :: r) p b K
  | r, .blk :: p, .block id b, K => ctxT f w nt T (.blk :: r) p b (blockV id K)
  | r, .blk :: p, .scope b, K => ctxT f w nt T (.blk :: r) p b K
  | r, .lp :: p, .loop b, K => ctxT f w nt T (.lp :: r) p b (seqV (fun e st => match lookP T r with
      | some J => J (nrm H f w b e st).1 (nrm H f w b e st).2
      | none => codeV P H (vrun P H) f w nt Res K (nrm H f w b e st).1 (nrm H f w b e st).2 (.loop b)) K)
  | _, _, _, K => K
theorem ctxT_ok {f w : Nat} {fn : Func} {nt : Nat} (ps : List (List Stp)) : ∀ (q r : List Stp) (c : Code) (K : Ex → Env → St → Option Res), okP r.reverse (bodyOf fn) = true → okP q c = true → nav r.reverse (bodyOf fn) = c → ctxV P H f w nt r.reverse (bodyOf fn) (resKV P fn (H.own f w)) = K →
    ctxT P H f w nt (placesT P H f w fn nt ps) r q c K = ctxV P H f w nt q c K
  | [], r, c, K, _, _, _, _ => by cases c <;> rfl
  | s :: q, r, c, K, h0, hq, h1, h2 => by
    have ext : ∀ (s : Stp) (d : Code) (K' : Ex → Env → St → Option Res), okP [s] c = true → nav [s] c = d → ctxV P H f w nt [s] c K = K' →
        okP (s :: r).reverse (bodyOf fn) = true ∧ nav (s :: r).reverse (bodyOf fn) = d ∧ ctxV P H f w nt (s :: r).reverse (bodyOf fn) (resKV P fn (H.own f w)) = K' := by
      intro s d K' g1 g2 g3
      rw [List.reverse_cons]
      refine ⟨okP_snoc _ _ _ h0 (by rw [h1]; exact g1), ?_, ?_⟩
      · rw [nav_app _ _ _ h0, h1, g2]
      · rw [ctx_app P H _ _ _ _ h0, h1, h2, g3]
    have ct : ∀ (r : List Stp) (c : Code) (K : Ex → Env → St → Option Res) (e : Env) (st : St), okP r.reverse (bodyOf fn) = true → nav r.reverse (bodyOf fn) = c → ctxV P H f w nt r.reverse (bodyOf fn) (resKV P fn (H.own f w)) = K →
        codeT P H f w nt (placesT P H f w fn nt ps) r K e st c = codeV P H (vrun P H) f w nt Res K e st c := by
      intro r c K e st g0 g1 g2
      exact codeT_ok P H ps c r K e st (fun q => by rw [ctx_app P H _ _ _ _ g0, g1, g2]) (fun q => by rw [nav_app _ _ _ g0, g1])
    have lf : ∀ (r : List Stp) (c : Code) (K : Ex → Env → St → Option Res) (J : Env → St → Option Res), nav r.reverse (bodyOf fn) = c → ctxV P H f w nt r.reverse (bodyOf fn) (resKV P fn (H.own f w)) = K → lookP (placesT P H f w fn nt ps) r = some J →
        ∀ e st, J e st = codeV P H (vrun P H) f w nt Res K e st c := by
      intro r c K J g1 g2 hJ e st
      rw [lookP_places P H hJ]
      unfold atV
      rw [g1, g2]
    cases s <;> cases c <;> first
      | (cases hq; done)
      | skip
    · rename_i a b
      have hk : (fun e st => match lookP (placesT P H f w fn nt ps) (.snd :: r) with
        | some J => J (nrm H f w b e st).1 (nrm H f w b e st).2
        | none => codeT P H f w nt (placesT P H f w fn nt ps) (.snd :: r) K (nrm H f w b e st).1 (nrm H f w b e st).2 b) = fun e' st' => normE H f w b e' st' fun e' st' => codeV P H (vrun P H) f w nt Res K e' st' b := by
        obtain ⟨g0, g1, g2⟩ := ext .snd b K rfl rfl rfl
        funext e st
        split
        · rename_i J hJ
          exact lf _ b K J g1 g2 hJ _ _
        · exact ct _ b K _ _ g0 g1 g2
      unfold ctxT
      rw [hk]
      obtain ⟨g0, g1, g2⟩ := ext .fst a _ rfl rfl rfl
      exact ctxT_ok ps q _ a _ g0 hq g1 g2
    · obtain ⟨g0, g1, g2⟩ := ext .snd _ _ rfl rfl rfl
      exact ctxT_ok ps q _ _ _ g0 hq g1 g2
    · obtain ⟨g0, g1, g2⟩ := ext .yes _ _ rfl rfl rfl
      exact ctxT_ok ps q _ _ _ g0 hq g1 g2
    · obtain ⟨g0, g1, g2⟩ := ext .no _ _ rfl rfl rfl
      exact ctxT_ok ps q _ _ _ g0 hq g1 g2
    · obtain ⟨g0, g1, g2⟩ := ext .blk _ _ rfl rfl rfl
      exact ctxT_ok ps q _ _ _ g0 hq g1 g2
    · obtain ⟨g0, g1, g2⟩ := ext .blk _ _ rfl rfl rfl
      exact ctxT_ok ps q _ _ _ g0 hq g1 g2
    · rename_i b
      have hk : (fun e st => match lookP (placesT P H f w fn nt ps) r with
        | some J => J (nrm H f w b e st).1 (nrm H f w b e st).2
        | none => codeV P H (vrun P H) f w nt Res K (nrm H f w b e st).1 (nrm H f w b e st).2 (.loop b)) = fun e' st' => normE H f w b e' st' fun e' st' => codeV P H (vrun P H) f w nt Res K e' st' (.loop b) := by
        funext e st
        split
        · rename_i J hJ
          exact lf _ _ K J h1 h2 hJ _ _
        · rfl
      unfold ctxT
      rw [hk]
      obtain ⟨g0, g1, g2⟩ := ext .lp b _ rfl rfl rfl
      exact ctxT_ok ps q _ b _ g0 hq g1 g2
/-- A join, up to the places. -/
theorem join_eq {f w : Nat} {fn : Func} {nt : Nat} {T : Tab} (ps : List (List Stp)) (hT : T = placesT P H f w fn nt ps) (p : List Stp) (e : Env) (h : St) (h0 : okP p.reverse (bodyOf fn) = true) :
    atV P H f w fn nt p.reverse e h = codeT P H f w nt T p (ctxT P H f w nt T [] p.reverse (bodyOf fn) (resKV P fn (H.own f w))) e h (nav p.reverse (bodyOf fn)) := by
  subst hT
  rw [ctxT_ok P H ps p.reverse [] (bodyOf fn) _ rfl h0 (by cases bodyOf fn <;> rfl) (by cases bodyOf fn <;> rfl)]
  rw [codeT_ok P H ps _ p _ _ _ (fun q => ctx_app P H _ _ _ _ h0) (fun q => nav_app _ _ _ h0)]
  rfl
/-- A loop's round, up to the places. -/
theorem round_eq {f w : Nat} {fn : Func} {nt : Nat} {b : Code} {T : Tab} (ps : List (List Stp)) (hT : T = placesT P H f w fn nt ps) (p : List Stp) (e : Env) (h : St) (hb : nav p.reverse (bodyOf fn) = .loop b) (hr : rounds H f w b = 0) (h0 : okP p.reverse (bodyOf fn) = true) :
    atV P H f w fn nt p.reverse e h = codeT P H f w nt T (.lp :: p) (ctxT P H f w nt T [] (.lp :: p).reverse (bodyOf fn) (resKV P fn (H.own f w))) e h b := by
  subst hT
  have h3 : okP (.lp :: p).reverse (bodyOf fn) = true := by rw [List.reverse_cons]; exact okP_snoc _ _ _ h0 (by rw [hb]; cases b <;> rfl)
  have h4 : nav (.lp :: p).reverse (bodyOf fn) = b := by rw [List.reverse_cons, nav_app _ _ _ h0, hb]; cases b <;> rfl
  rw [ctxT_ok P H ps (.lp :: p).reverse [] (bodyOf fn) _ rfl h3 (by cases bodyOf fn <;> rfl) (by cases bodyOf fn <;> rfl)]
  rw [codeT_ok P H ps b (.lp :: p) _ e h (fun q => by rw [ctx_app P H _ _ _ _ h3, h4]) (fun q => by rw [nav_app _ _ _ h3, h4])]
  rw [atV_loop P H hb hr]
  congr 1
  rw [List.reverse_cons, ctx_app P H _ _ _ _ h0, hb]
  cases b <;> rfl
end
end Go.Proofs.Ytemdhiejbncafaa.VM
end

section
namespace Go.Proofs.Ytemdhiejbncafaa.VM
set_option linter.unusedSimpArgs false
open Go AM Go.RowKit
set_option linter.unusedSectionVars false
set_option linter.unusedVariables false
/-- The hint of AM that belongs to a hint of VM. -/
def amHint (H : Hint) (ov : FuncId → List Value → Option Value) : AM.Hint := { eqt := H.eqt, keep := fun _ _ => none, ov }
theorem start_Sm (w : World) : Sm (fun _ => False) (fun _ => False) (fun _ => none) ⟨[], []⟩ (AM.start w) where
  ok := start_ok w
  fLt := fun r h => by rcases h with h | h <;> exact h.elim
  blk := fun id b h => by cases h
  inj := fun id1 b1 id2 b2 r k1 k2 h => by cases h
  apart := fun id b r k h => by cases h
  gUsed := fun id g h => by cases h
/-- What is frozen at the beginning. -/
abbrev fz0 (w : World) : Fz := fz (fun _ => False) (AM.start w)
abbrev G0 : GM := fun _ => none
section
variable {P : Program} {H : Hint} {ov : FuncId → List Value → Option Value}
/-- A CALL THAT THE SMALL EVALUATOR ENDS WITH A BOOL ENDS SO IN EVERY WORLD. -/
theorem run_law (hq : EqOK P H.eqt) (hov : OvOK P ov) (hv : OvV H (amHint H ov)) (hm : P.follows .mixedOrders = true) {f : FuncId} {args : Array Value} {vs : List V} {w : World} (hr : VRs (fz0 w) G0 vs args.toList) (ha : ∀ v ∈ args.toList, flatB w.heap.size v = true) {b : Bool} {st : St}
    (he : vrun P H f 0 vs ⟨[], []⟩ = some (.t (.bool b), st)) :
    Calls P f args w fun e w' => e = .returned (.bool b) ∧ Below w.heap.size w w' := by
  obtain ⟨F, G, u, h', h1, _, h3⟩ := vrun_ok P (HA := amHint H ov) rfl (fun _ _ => rfl) hv f 0 vs ⟨[], []⟩ (.t (.bool b)) st he (fun _ => False) (fun _ => False) G0 (AM.start w) args.toList (start_Sm w) (fun id g h => by cases h) hr
  have hu : u = .bool b := by
    cases vr_t h3 with
    | one hr => cases hr; rfl
  subst hu
  exact AM.run_law (H := amHint H ov) hq hov hm ha h1
end
end Go.Proofs.Ytemdhiejbncafaa.VM
end

section
namespace Go.Proofs.Ytemdhiejbncafaa.VM
set_option linter.unusedVariables false
open Go AM
section
variable {R : Type}
theorem ct {A : Type} (a b : A) : (bif true then a else b) = a := (fun (_ : Unit) => rfl) ()
theorem cf {A : Type} (a b : A) : (bif false then a else b) = b := (fun (_ : Unit) => rfl) ()
theorem callK_some {R : Type} (v : V) (st : St) (K : V → Bs → Option R) : callK (some (v, st)) K = K v st.blks := (fun (_ : Unit) => rfl) ()
theorem asI_int {R : Type} (k : IntKind) (n : Int) (K : Int → Option R) : asI k (.int k n) K = K n := by unfold asI; simp
theorem asT_t {R : Type} (x : T) (K : T → Option R) : asT (.t x) K = K x := (fun (_ : Unit) => rfl) ()
theorem asB_bool (b : Bool) (K : Bool → Option R) : asB (.bool b) K = K b := (fun (_ : Unit) => rfl) ()
theorem asS_str (s : ByteArray) (K : ByteArray → Option R) : asS (.str s) K = K s := (fun (_ : Unit) => rfl) ()
theorem asL_list (s : Nat) (nn : Bool) (l : List T) (K : Bool → List T → Option R) : asL s (.list s nn l) K = K nn l := by unfold asL; simp
theorem asA_agg (cs : List T) (K : List T → Option R) : asA (.agg cs) K = K cs := (fun (_ : Unit) => rfl) ()
theorem consT_cons (x : T) (l : List T) (K : T → List T → Option R) : consT (x :: l) K = K x l := (fun (_ : Unit) => rfl) ()
theorem endT_nil (K : Option R) : endT [] K = K := (fun (_ : Unit) => rfl) ()
theorem asTup_tup (l : List V) (K : List V → Option R) : asTup (.tup l) K = K l := (fun (_ : Unit) => rfl) ()
theorem consV_cons (x : V) (l : List V) (K : V → List V → Option R) : consV (x :: l) K = K x l := (fun (_ : Unit) => rfl) ()
theorem endV_nil (K : Option R) : endV [] K = K := (fun (_ : Unit) => rfl) ()
theorem endB_nil {R : Type} (K : Option R) : endB [] K = K := (fun (_ : Unit) => rfl) ()
theorem consB_cons (i : Nat) (b : Blk) (bs : Bs) (K : Blk → Bs → Option R) : consB i ((i, b) :: bs) K = K b bs := by unfold consB; simp
theorem asArr_arr (s : Nat) (nn : Bool) (l : List T) (K : Bool → List T → Option R) : asArr s (.arr true s nn l) K = K nn l := by unfold asArr; simp
theorem asAv_av (l : List T) (K : List T → Option R) : asAv (.av l) K = K l := (fun (_ : Unit) => rfl) ()
theorem asMp_map (l : List (T × T)) (K : List (T × T) → Option R) : asMp (.map l) K = K l := (fun (_ : Unit) => rfl) ()
theorem asVar_var (l : List V) (K : List V → Option R) : asVar (.var l) K = K l := (fun (_ : Unit) => rfl) ()
theorem isBuf_buf (i : Nat) (K : Option R) : isBuf i (.buf i) K = K := by unfold isBuf; simp
theorem isPtr_ptr (a i o : Nat) (K : Option R) : isPtr a i o (.ptr a i o) K = K := by unfold isPtr; simp
theorem bNT : (!true) = false := by exact (fun (_ : Unit) => rfl) ()
theorem bNF : (!false) = true := by exact (fun (_ : Unit) => rfl) ()
theorem bTA (b : Bool) : (true && b) = b := by cases b <;> rfl
theorem bAT (b : Bool) : (b && true) = b := by cases b <;> rfl
theorem bFA (b : Bool) : (false && b) = false := by cases b <;> rfl
theorem bAF (b : Bool) : (b && false) = false := by cases b <;> rfl
theorem bTO (b : Bool) : (true || b) = true := by cases b <;> rfl
theorem bOT (b : Bool) : (b || true) = true := by cases b <;> rfl
theorem bFO (b : Bool) : (false || b) = b := by cases b <;> rfl
theorem bOF (b : Bool) : (b || false) = b := by cases b <;> rfl
theorem dT {i : Decidable True} : @decide True i = true := by simp
theorem dF {i : Decidable False} : @decide False i = false := by simp
theorem needC_t {R : Type} (K : Unit → Option R) : needC true K = K () := (fun (_ : Unit) => rfl) ()
theorem needC_true {R : Type} {b : Bool} (h : b = true) (K : Unit → Option R) : needC b K = K () := by subst h; rfl
theorem getT_at {l : List T} {i : Nat} {x : T} (h : l[i]? = some x) (K : T → Option R) : getT l i K = K x := by unfold getT; rw [h]
theorem setT_at {l : List T} {i : Nat} (x : T) (h : i < l.length) (K : List T → Option R) : setT l i x K = K (l.set i x) := by unfold setT; rw [decide_eq_true h, needC_t]
theorem wrap64 {n : Int} (h1 : -9223372036854775808 ≤ n) (h2 : n < 9223372036854775808) : IntKind.i64.wrap n = n := by
  rw [IntKind.wrap_i64]; omega
end
end Go.Proofs.Ytemdhiejbncafaa.VM
end
