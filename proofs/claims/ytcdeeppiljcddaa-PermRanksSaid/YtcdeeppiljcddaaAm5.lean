/- AM, the fifth part: the equations of loops and of calls. Conditions: none. -/
import Derived.Test.YtcdeeppiljcddaaAm4
namespace Go.Proofs.Ytcdeeppiljcddaa.AM
open Go
set_option linter.unusedSectionVars false
set_option linter.unusedSimpArgs false

section
variable {R S : Type} (G : R → Option S) (P : Program) (H : Hint) (call : FuncId → List Value → Hp → Option (Value × Hp))

theorem guardC_bind (ops : Array Oper) (o : Oper) (e : Env) (yes no : Env → Option R) : (guardC ops o e yes no).bind G = guardC ops o e (fun e => (yes e).bind G) (fun e => (no e).bind G) := by
  unfold guardC
  split <;> (try rfl)
  split <;> (try rfl)
  split <;> (try rfl)
  · split <;> split <;> rfl
  · rename_i vs _
    cases vs.isEmpty <;> rfl

theorem opsC_bind (ops : Array Oper) : ∀ (l : List Oper) (e : Env) (h : Hp) (K : Env → Hp → Option R), (opsC P H call ops l e h K).bind G = opsC P H call ops l e h fun e h => (K e h).bind G
  | [], _, _, _ => rfl
  | o :: rest, e, h, K => by simp only [opsC, guardC_bind, opC_bind, opsC_bind ops rest]

theorem drawC_bind (ops : Array Oper) : ∀ (l : List Oper) (i : Nat) (e : Env) (h : Hp) (hs : List Hp) (K : Env → Hp → Option R), (drawC P H call ops l i e h hs K).bind G = drawC P H call ops l i e h hs fun e h => (K e h).bind G
  | [], _, _, _, _, _ => rfl
  | o :: rest, i, e, h, hs, K => by
    simp only [drawC, guardC_bind]
    congr 1
    · funext e
      cases cls o <;> simp only [opC_bind, drawC_bind ops rest]
      cases besideRead ops i <;> simp only [cond_true, cond_false, opC_bind, needC_bind, drawC_bind ops rest]
    · funext e
      simp only [drawC_bind ops rest]

theorem seqK_bind (next : Env → Hp → Option R) (K : Ex → Env → Hp → Option R) (ex : Ex) (e : Env) (h : Hp) : (seqK next K ex e h).bind G = seqK (fun e h => (next e h).bind G) (fun ex e h => (K ex e h).bind G) ex e h := by cases ex <;> rfl
theorem blockK_bind (id : Nat) (K : Ex → Env → Hp → Option R) (ex : Ex) (e : Env) (h : Hp) : (blockK id K ex e h).bind G = blockK id (fun ex e h => (K ex e h).bind G) ex e h := by
  cases ex <;> try rfl
  rename_i i
  unfold blockK
  dsimp only
  cases i == id <;> rfl

theorem codeC_bind (f : FuncId) (nt : Nat) (c : Code) : ∀ {R S : Type} (G : R → Option S) (e : Env) (h : Hp) (K : Ex → Env → Hp → Option R), (codeC P H call f nt c R e h K).bind G = codeC P H call f nt c S e h fun ex e h => (K ex e h).bind G := by
  induction c with
  | skip => intros; rfl
  | label l => intros; rfl
  | exit i => intros; rfl
  | ret => intros; rfl
  | region id ops draw =>
    intro R S G e h K
    unfold codeC
    cases dstsOk nt ops <;> simp only [cond_true, cond_false, Option.bind_none]
    cases draw <;> simp only [cond_true, cond_false, opsC_bind]
    cases okDraw ops <;> simp only [cond_true, cond_false, drawC_bind, Option.bind_none]
  | seq a b iha ihb =>
    intro R S G e h K
    unfold codeC
    rw [iha]
    congr 1
    funext ex e h
    rw [seqK_bind]
    congr 1
    funext e h
    rw [ihb]
  | cond x a b iha ihb =>
    intro R S G e h K
    unfold codeC
    split
    · split <;> (try rfl)
      split
      · rw [iha]
      · rw [ihb]
    · split
      · rw [iha]
      · rw [ihb]
    · rfl
  | block id b ih =>
    intro R S G e h K
    unfold codeC
    rw [ih]
    congr 1
    funext ex e h
    rw [blockK_bind]
  | loop b ih =>
    intro R S G e h K
    unfold codeC
    rw [Option.bind_assoc]
  | rangeFunc => intros; rfl
  | scope => intros; rfl
  | goto => intros; rfl
  | refuse => intros; rfl

/-- What code comes to, by itself. -/
noncomputable def codeD (f : FuncId) (nt : Nat) (c : Code) (e : Env) (h : Hp) : Option Out := codeC P H call f nt c Out e h fun ex e h => some (ex, e, h)
theorem codeC_eq (f : FuncId) (nt : Nat) (c : Code) (e : Env) (h : Hp) (K : Ex → Env → Hp → Option R) : codeC P H call f nt c R e h K = (codeD P H call f nt c e h).bind fun r => K r.1 r.2.1 r.2.2 := by
  unfold codeD
  rw [codeC_bind]
  rfl
theorem opC_eq (ev : Operand → Value) (o : Oper) (h : Hp) (K : Value → Hp → Option R) : opC P H call ev o h K = (opC P H call ev o h fun v h => some (v, h)).bind fun r => K r.1 r.2 := by
  rw [opC_bind]; rfl

theorem get_keep (l : List Nat) (e : Env) (t : Nat) (h : t ∈ l) : (e.keep l).get t = e.get t := by
  induction l with
  | nil => cases h
  | cons x l ih =>
    simp only [Env.keep, List.map_cons, Env.get]
    by_cases hx : x = t
    · subst hx; simp
    · have : (x == t) = false := by simpa using hx
      rw [this, cond_false]
      exact ih (by cases h with | head => exact absurd rfl hx | tail _ h => exact h)
theorem keep_keep (l : List Nat) (e : Env) : (e.keep l).keep l = e.keep l := by
  show l.map _ = l.map _
  apply List.map_congr_left
  intro t ht
  rw [get_keep l e t ht]
theorem maskE_maskE (f : FuncId) (c : Code) (e : Env) : maskE H f c (maskE H f c e) = maskE H f c e := by
  unfold maskE
  cases firstId c with
  | none => rfl
  | some id =>
    dsimp only
    cases H.keep f id with
    | none => rfl
    | some l => exact keep_keep l e

theorem loopN_up (D : Env → Hp → Option Out) (m : Env → Env) : ∀ (n : Nat) (e : Env) (h : Hp) (v : Out), loopN D m n e h = some v → loopN D m (n + 1) e h = some v
  | 0, _, _, _, hv => by cases hv
  | n + 1, e, h, v, hv => by
    rw [loopN] at hv ⊢
    cases hd : D (m e) h with
    | none => rw [hd] at hv; cases hv
    | some r =>
      rw [hd] at hv
      simp only [Option.bind_some] at hv ⊢
      obtain ⟨ex, e', h'⟩ := r
      cases ex with
      | normal => exact loopN_up D m n e' h' v hv
      | exit i => exact hv
      | ret => exact hv

theorem loopD_eq (D : Env → Hp → Option Out) (m : Env → Env) (e : Env) (h : Hp) :
    loopD D m e h = (D (m e) h).bind fun r => match r with
      | (.normal, e', h') => loopD D m e' h'
      | r => some r := by
  apply Option.ext
  intro v
  constructor
  · intro hv
    obtain ⟨n, hn⟩ := lfp_some hv
    cases n with
    | zero => cases hn
    | succ n =>
      rw [loopN] at hn
      cases hd : D (m e) h with
      | none => rw [hd] at hn; cases hn
      | some r =>
        rw [hd] at hn
        simp only [Option.bind_some] at hn ⊢
        obtain ⟨ex, e', h'⟩ := r
        cases ex with
        | normal => exact lfp_eq (F := fun n => loopN D m n e' h') (fun n v => loopN_up D m n e' h' v) hn
        | exit i => exact hn
        | ret => exact hn
  · intro hv
    cases hd : D (m e) h with
    | none => rw [hd] at hv; cases hv
    | some r =>
      rw [hd] at hv
      simp only [Option.bind_some] at hv
      obtain ⟨ex, e', h'⟩ := r
      cases ex with
      | normal =>
        obtain ⟨n, hn⟩ := lfp_some hv
        exact lfp_eq (F := fun n => loopN D m n e h) (n := n + 1) (fun n v => loopN_up D m n e h v) (by show loopN D m (n + 1) e h = some v; rw [loopN, hd]; exact hn)
      | exit i => exact lfp_eq (F := fun n => loopN D m n e h) (n := 1) (fun n v => loopN_up D m n e h v) (by show loopN D m 1 e h = some v; rw [loopN, hd]; exact hv)
      | ret => exact lfp_eq (F := fun n => loopN D m n e h) (n := 1) (fun n v => loopN_up D m n e h v) (by show loopN D m 1 e h = some v; rw [loopN, hd]; exact hv)

theorem loopD_mask (D : Env → Hp → Option Out) (f : FuncId) (b : Code) (e : Env) (h : Hp) : loopD D (maskE H f b) (maskE H f b e) h = loopD D (maskE H f b) e h := by
  rw [loopD_eq, loopD_eq D _ e h, maskE_maskE]

/-- A LOOP, ROUND BY ROUND. -/
theorem loop_eq (f : FuncId) (nt : Nat) (b : Code) (e : Env) (h : Hp) (K : Ex → Env → Hp → Option R) :
    codeC P H call f nt (.loop b) R e h K = codeC P H call f nt b R (maskE H f b e) h (seqK (fun e' h' => codeC P H call f nt (.loop b) R (maskE H f b e') h' K) K) := by
  rw [codeC_eq (c := b)]
  unfold codeC
  show (loopD (codeD P H call f nt b) (maskE H f b) e h).bind _ = _
  rw [loopD_eq, Option.bind_assoc]
  congr 1
  funext r
  obtain ⟨ex, e', h'⟩ := r
  cases ex with
  | normal =>
    show _ = (loopD (codeD P H call f nt b) (maskE H f b) (maskE H f b e') h').bind _
    rw [loopD_mask]
  | exit i => rfl
  | ret => rfl
theorem loop_mask (f : FuncId) (nt : Nat) (b : Code) (e : Env) (h : Hp) (K : Ex → Env → Hp → Option R) :
    codeC P H call f nt (.loop b) R (maskE H f b e) h K = codeC P H call f nt (.loop b) R e h K := by
  rw [loop_eq, loop_eq (e := e), maskE_maskE]
end

/-! ### calls -/
def LeC (c1 c2 : FuncId → List Value → Hp → Option (Value × Hp)) : Prop := ∀ g as h r, c1 g as h = some r → c2 g as h = some r
section
variable (P : Program) (H : Hint) {c1 c2 : FuncId → List Value → Hp → Option (Value × Hp)}

theorem opC_irrel {R : Type} (ev : Operand → Value) (o : Oper) (h : Hp) (K : Value → Hp → Option R) (hb : callB o = false) : opC P H c1 ev o h K = opC P H c2 ev o h K := by
  unfold opC
  split <;> first
    | (with_reducible rfl)
    | (rename_i heq; simp [callB, heq] at hb)

theorem opC_call {R : Type} (c : FuncId → List Value → Hp → Option (Value × Hp)) (ev : Operand → Value) (o : Oper) (h : Hp) (K : Value → Hp → Option R) (hb : callB o = true) :
    ∃ f args ts, o.op = .call { callee := .value f, args, argTypes := ts } ∧ opC P H c ev o h K = callC P c (ev f) (args.toList.map ev) o.type h K := by
  unfold callB at hb
  split at hb
  · rename_i f args ts heq
    refine ⟨f, args, ts, heq, ?_⟩
    simp only [opC, heq]
  · cases hb

theorem callC_mono {R : Type} (hc : LeC c1 c2) (f : Value) (as : List Value) (t : TypeId) (h : Hp) (K : Value → Hp → Option R) (r : R) (hr : callC P c1 f as t h K = some r) : callC P c2 f as t h K = some r := by
  unfold callC at hr ⊢
  split at hr <;> (try cases hr)
  split at hr <;> (try cases hr)
  cases hq : c1 _ _ h with
  | none => rw [hq] at hr; cases hr
  | some q => rw [hq] at hr; rw [hc _ _ _ _ hq]; exact hr

theorem opC_mono (hc : LeC c1 c2) (ev : Operand → Value) (o : Oper) (h : Hp) (r : Value × Hp) (hr : opC P H c1 ev o h (fun v h => some (v, h)) = some r) : opC P H c2 ev o h (fun v h => some (v, h)) = some r := by
  cases hb : callB o with
  | false => rw [opC_irrel P H (c1 := c2) (c2 := c1) _ _ _ _ hb]; exact hr
  | true =>
    obtain ⟨f, args, ts, heq, e1⟩ := opC_call P H c1 ev o h (fun v h => some (v, h)) hb
    obtain ⟨f', args', ts', heq', e2⟩ := opC_call P H c2 ev o h (fun v h => some (v, h)) hb
    rw [heq] at heq'
    cases heq'
    rw [e2]
    rw [e1] at hr
    exact callC_mono P hc _ _ _ _ _ _ hr

theorem guardC_mono {R : Type} {ops : Array Oper} {o : Oper} {e : Env} {y1 n1 y2 n2 : Env → Option R} {r : R} (hy : ∀ e, y1 e = some r → y2 e = some r) (hn : ∀ e, n1 e = some r → n2 e = some r)
    (h : guardC ops o e y1 n1 = some r) : guardC ops o e y2 n2 = some r := by
  unfold guardC at h ⊢
  split at h
  · exact hy _ h
  · split at h
    · split at h
      · split at h <;> split at h <;> first | exact hy _ h | exact hn _ h
      · rename_i vs _
        cases hv : vs.isEmpty <;> rw [hv] at h
        · cases h
        · exact hn _ h
      · cases h
    · cases h

theorem needC_some {R : Type} {b : Bool} {K : Unit → Option R} {r : R} (h : needC b K = some r) : b = true ∧ K () = some r := by
  cases b
  · cases h
  · exact ⟨rfl, h⟩

theorem opsC_mono {R : Type} (hc : LeC c1 c2) (ops : Array Oper) (K : Env → Hp → Option R) (r : R) : ∀ (l : List Oper) (e : Env) (h : Hp), opsC P H c1 ops l e h K = some r → opsC P H c2 ops l e h K = some r
  | [], _, _, hr => hr
  | o :: rest, e, h, hr => by
    rw [opsC] at hr ⊢
    refine guardC_mono (fun e he => ?_) (fun e he => opsC_mono hc ops K r rest _ _ he) hr
    rw [opC_eq] at he ⊢
    obtain ⟨q, hq, hk⟩ := Option.bind_eq_some_iff.1 he
    rw [opC_mono P H hc _ _ _ _ hq]
    exact opsC_mono hc ops K r rest _ _ hk

theorem drawC_mono {R : Type} (hc : LeC c1 c2) (ops : Array Oper) (K : Env → Hp → Option R) (r : R) : ∀ (l : List Oper) (i : Nat) (e : Env) (h : Hp) (hs : List Hp), drawC P H c1 ops l i e h hs K = some r → drawC P H c2 ops l i e h hs K = some r
  | [], _, _, _, _, hr => hr
  | o :: rest, i, e, h, hs, hr => by
    rw [drawC] at hr ⊢
    refine guardC_mono (fun e he => ?_) (fun e he => drawC_mono hc ops K r rest _ _ _ _ he) hr
    cases hcl : cls o <;> simp only [hcl] at he ⊢
    · rw [opC_eq] at he ⊢
      obtain ⟨q, hq, hk⟩ := Option.bind_eq_some_iff.1 he
      rw [opC_mono P H hc _ _ _ _ hq]
      exact drawC_mono hc ops K r rest _ _ _ _ hk
    · rw [opC_eq] at he ⊢
      obtain ⟨q, hq, hk⟩ := Option.bind_eq_some_iff.1 he
      rw [opC_mono P H hc _ _ _ _ hq]
      exact drawC_mono hc ops K r rest _ _ _ _ hk
    · cases hbr : besideRead ops i <;> simp only [hbr, cond_true, cond_false] at he ⊢
      · rw [opC_eq] at he ⊢
        obtain ⟨q, hq, hk⟩ := Option.bind_eq_some_iff.1 he
        rw [opC_mono P H hc _ _ _ _ hq]
        exact drawC_mono hc ops K r rest _ _ _ _ hk
      · rw [opC_eq] at he ⊢
        obtain ⟨q, hq, hk⟩ := Option.bind_eq_some_iff.1 he
        rw [opC_mono P H hc _ _ _ _ hq]
        obtain ⟨hb, hk⟩ := needC_some hk
        simp only [Option.bind_some]
        rw [hb]
        exact drawC_mono hc ops K r rest _ _ _ _ hk

theorem loopN_mono {D1 D2 : Env → Hp → Option Out} (m : Env → Env) (hD : ∀ e h v, D1 e h = some v → D2 e h = some v) : ∀ (n : Nat) (e : Env) (h : Hp) (v : Out), loopN D1 m n e h = some v → loopN D2 m n e h = some v
  | 0, _, _, _, hv => by cases hv
  | n + 1, e, h, v, hv => by
    rw [loopN] at hv ⊢
    obtain ⟨q, hq, hk⟩ := Option.bind_eq_some_iff.1 hv
    rw [hD _ _ _ hq]
    obtain ⟨ex, e', h'⟩ := q
    cases ex with
    | normal => exact loopN_mono m hD n e' h' v hk
    | exit i => exact hk
    | ret => exact hk
theorem loopD_mono {D1 D2 : Env → Hp → Option Out} (m : Env → Env) (hD : ∀ e h v, D1 e h = some v → D2 e h = some v) (e : Env) (h : Hp) (v : Out) (hv : loopD D1 m e h = some v) : loopD D2 m e h = some v := by
  obtain ⟨n, hn⟩ := lfp_some hv
  exact lfp_eq (F := fun n => loopN D2 m n e h) (fun n v => loopN_up D2 m n e h v) (loopN_mono m hD n e h v hn)

theorem codeC_mono (hc : LeC c1 c2) (f : FuncId) (nt : Nat) (c : Code) : ∀ {R : Type} (e : Env) (h : Hp) (K1 K2 : Ex → Env → Hp → Option R) (r : R), (∀ ex e h, K1 ex e h = some r → K2 ex e h = some r) →
    codeC P H c1 f nt c R e h K1 = some r → codeC P H c2 f nt c R e h K2 = some r := by
  induction c with
  | skip => intro R e h K1 K2 r hK hr; exact hK _ _ _ hr
  | label l => intro R e h K1 K2 r hK hr; exact hK _ _ _ hr
  | exit i => intro R e h K1 K2 r hK hr; exact hK _ _ _ hr
  | ret => intro R e h K1 K2 r hK hr; exact hK _ _ _ hr
  | region id ops draw =>
    intro R e h K1 K2 r hK hr
    unfold codeC at hr ⊢
    cases hd : dstsOk nt ops <;> rw [hd] at hr <;> simp only [cond_true, cond_false] at hr ⊢
    · cases hr
    have key : ∀ (A : (Env → Hp → Option R) → Option R) (B : (Env → Hp → Option (Env × Hp)) → Option (Env × Hp)), (∀ K, A K = (B fun e h => some (e, h)).bind fun q => K q.1 q.2) → A (K1 .normal) = some r → A (K2 .normal) = some r := by
      intro A B hAB hA
      rw [hAB] at hA ⊢
      obtain ⟨q, hq, hk⟩ := Option.bind_eq_some_iff.1 hA
      rw [hq]
      exact hK _ _ _ hk
    cases draw <;> simp only [cond_true, cond_false] at hr ⊢
    · refine opsC_mono P H hc ops _ r _ _ _ ?_
      exact key (fun K => opsC P H c1 ops ops.toList e h K) (fun K => opsC P H c1 ops ops.toList e h K) (fun K => by rw [opsC_bind]; rfl) hr
    · cases ho : okDraw ops <;> rw [ho] at hr <;> simp only [cond_true, cond_false] at hr ⊢
      · cases hr
      refine drawC_mono P H hc ops _ r _ _ _ _ _ ?_
      exact key (fun K => drawC P H c1 ops ops.toList 0 e h [h] K) (fun K => drawC P H c1 ops ops.toList 0 e h [h] K) (fun K => by rw [drawC_bind]; rfl) hr
  | seq a b iha ihb =>
    intro R e h K1 K2 r hK hr
    unfold codeC at hr ⊢
    refine iha _ _ _ _ _ (fun ex e h hx => ?_) hr
    cases ex with
    | normal => exact ihb _ _ _ _ _ hK hx
    | exit i => exact hK _ _ _ hx
    | ret => exact hK _ _ _ hx
  | cond x a b iha ihb =>
    intro R e h K1 K2 r hK hr
    unfold codeC at hr ⊢
    split at hr
    · split at hr
      · split at hr
        · exact iha _ _ _ _ _ hK hr
        · exact ihb _ _ _ _ _ hK hr
      · cases hr
    · split at hr
      · exact iha _ _ _ _ _ hK hr
      · exact ihb _ _ _ _ _ hK hr
    · cases hr
  | block id b ih =>
    intro R e h K1 K2 r hK hr
    unfold codeC at hr ⊢
    refine ih _ _ _ _ _ (fun ex e h hx => ?_) hr
    cases ex with
    | normal => exact hK _ _ _ hx
    | exit i =>
      simp only [blockK] at hx ⊢
      cases hi : i == id <;> rw [hi] at hx <;> exact hK _ _ _ hx
    | ret => exact hK _ _ _ hx
  | loop b ih =>
    intro R e h K1 K2 r hK hr
    unfold codeC at hr ⊢
    obtain ⟨q, hq, hk⟩ := Option.bind_eq_some_iff.1 hr
    rw [loopD_mono _ (fun e h v hv => ih _ _ _ _ _ (fun _ _ _ hx => hx) hv) _ _ _ hq]
    exact hK _ _ _ hk
  | rangeFunc => intro R e h K1 K2 r hK hr; cases hr
  | scope => intro R e h K1 K2 r hK hr; cases hr
  | goto => intro R e h K1 K2 r hK hr; cases hr
  | refuse => intro R e h K1 K2 r hK hr; cases hr

theorem funC_mono (hc : LeC c1 c2) (f : FuncId) (args : List Value) (h : Hp) (r : Value × Hp) (hr : funC P H c1 f args h = some r) : funC P H c2 f args h = some r := by
  unfold funC at hr ⊢
  split at hr
  · split at hr
    · rename_i fn _ _ c _
      cases hn : fn.name == "runtime.NumGoroutine" <;> rw [hn] at hr
      · exact codeC_mono P H hc _ _ _ _ _ _ _ _ (fun _ _ _ hx => hx) hr
      · cases hr
    · cases hr
  · cases hr

theorem aN_up : ∀ (k : Nat), LeC (aN P H k) (aN P H (k + 1))
  | 0 => fun _ _ _ _ hr => by cases hr
  | k + 1 => fun g as h r hr => funC_mono P H (aN_up k) g as h r hr
theorem aN_le (k d : Nat) : LeC (aN P H k) (aN P H (k + d)) := by
  induction d with
  | zero => exact fun _ _ _ _ hr => hr
  | succ d ih => exact fun g as h r hr => aN_up P H (k + d) g as h r (ih g as h r hr)
theorem aN_max (k d : Nat) : LeC (aN P H k) (aN P H (max k d)) := by
  obtain ⟨e, he⟩ : ∃ e, max k d = k + e := ⟨max k d - k, by omega⟩
  rw [he]
  exact aN_le P H k e
theorem aN_max' (k d : Nat) : LeC (aN P H d) (aN P H (max k d)) := by
  rw [Nat.max_comm]
  exact aN_max P H d k
theorem arun_of (k : Nat) (f : FuncId) (args : List Value) (h : Hp) (r : Value × Hp) (hr : aN P H k f args h = some r) : arun P H f args h = some r :=
  lfp_eq (F := fun k => aN P H k f args h) (fun n v => aN_up P H n f args h v) hr
theorem arun_some {f : FuncId} {args : List Value} {h : Hp} {r : Value × Hp} (hr : arun P H f args h = some r) : ∃ k, aN P H k f args h = some r := lfp_some hr

/-! What comes with all calls comes with calls of some depth. -/
theorem opC_cont (ev : Operand → Value) (o : Oper) (h : Hp) (r : Value × Hp) (hr : opC P H (arun P H) ev o h (fun v h => some (v, h)) = some r) : ∃ k, opC P H (aN P H k) ev o h (fun v h => some (v, h)) = some r := by
  cases hb : callB o with
  | false => exact ⟨0, by rw [opC_irrel P H (c2 := arun P H) _ _ _ _ hb]; exact hr⟩
  | true =>
    obtain ⟨f, args, ts, heq, e1⟩ := opC_call P H (arun P H) ev o h (fun v h => some (v, h)) hb
    rw [e1] at hr
    have : ∃ k, callC P (aN P H k) (ev f) (args.toList.map ev) o.type h (fun v h => some (v, h)) = some r := by
      unfold callC at hr ⊢
      split at hr
      · split at hr
        · rename_i g fst cap _ i hi
          obtain ⟨q, hq, hk⟩ := Option.bind_eq_some_iff.1 hr
          obtain ⟨k, hk'⟩ := arun_some P H hq
          exact ⟨k, by simp only [hi]; rw [hk']; exact hk⟩
        · cases hr
      · cases hr
    obtain ⟨k, hk⟩ := this
    refine ⟨k, ?_⟩
    obtain ⟨f', args', ts', heq', e2⟩ := opC_call P H (aN P H k) ev o h (fun v h => some (v, h)) hb
    rw [heq] at heq'
    cases heq'
    rw [e2]
    exact hk

theorem guardC_cases {R : Type} {ops : Array Oper} {o : Oper} {e : Env} {yes no : Env → Option R} {r : R} (h : guardC ops o e yes no = some r) :
    (∃ e', yes e' = some r ∧ ∀ y n : Env → Option R, y e' = some r → guardC ops o e y n = some r) ∨ (∃ e', no e' = some r ∧ ∀ y n : Env → Option R, n e' = some r → guardC ops o e y n = some r) := by
  unfold guardC at h ⊢
  split at h
  · exact .inl ⟨_, h, fun _ _ h => h⟩
  · split at h
    · split at h
      · split at h <;> split at h <;> first | exact .inl ⟨_, h, fun _ _ h => h⟩ | exact .inr ⟨_, h, fun _ _ h => h⟩
      · rename_i vs _
        cases hv : vs.isEmpty <;> rw [hv] at h
        · cases h
        · exact .inr ⟨_, h, fun _ _ h => h⟩
      · cases h
    · cases h

theorem opsC_cont {R : Type} (ops : Array Oper) (K : Env → Hp → Option R) (r : R) : ∀ (l : List Oper) (e : Env) (h : Hp), opsC P H (arun P H) ops l e h K = some r → ∃ k, opsC P H (aN P H k) ops l e h K = some r
  | [], _, _, hr => ⟨0, hr⟩
  | o :: rest, e, h, hr => by
    rw [opsC] at hr
    rcases guardC_cases hr with ⟨e', he, hg⟩ | ⟨e', he, hg⟩
    · rw [opC_eq] at he
      obtain ⟨q, hq, hk⟩ := Option.bind_eq_some_iff.1 he
      obtain ⟨k1, h1⟩ := opC_cont P H _ _ _ _ hq
      obtain ⟨k2, h2⟩ := opsC_cont ops K r rest _ _ hk
      refine ⟨max k1 k2, ?_⟩
      rw [opsC]
      refine hg _ _ ?_
      rw [opC_eq, opC_mono P H (aN_max P H k1 k2) _ _ _ _ h1]
      exact opsC_mono P H (aN_max' P H k1 k2) ops K r rest _ _ h2
    · obtain ⟨k, hk⟩ := opsC_cont ops K r rest _ _ he
      refine ⟨k, ?_⟩
      rw [opsC]
      exact hg _ _ hk

theorem drawC_cont {R : Type} (ops : Array Oper) (K : Env → Hp → Option R) (r : R) : ∀ (l : List Oper) (i : Nat) (e : Env) (h : Hp) (hs : List Hp), drawC P H (arun P H) ops l i e h hs K = some r → ∃ k, drawC P H (aN P H k) ops l i e h hs K = some r
  | [], _, _, _, _, hr => ⟨0, hr⟩
  | o :: rest, i, e, h, hs, hr => by
    rw [drawC] at hr
    rcases guardC_cases hr with ⟨e', he, hg⟩ | ⟨e', he, hg⟩
    · cases hcl : cls o <;> simp only [hcl] at he
      · rw [opC_eq] at he
        obtain ⟨q, hq, hk⟩ := Option.bind_eq_some_iff.1 he
        obtain ⟨k1, h1⟩ := opC_cont P H _ _ _ _ hq
        obtain ⟨k2, h2⟩ := drawC_cont ops K r rest _ _ _ _ hk
        refine ⟨max k1 k2, ?_⟩
        rw [drawC]
        refine hg _ _ ?_
        simp only [hcl]
        rw [opC_eq, opC_mono P H (aN_max P H k1 k2) _ _ _ _ h1]
        exact drawC_mono P H (aN_max' P H k1 k2) ops K r rest _ _ _ _ h2
      · rw [opC_eq] at he
        obtain ⟨q, hq, hk⟩ := Option.bind_eq_some_iff.1 he
        obtain ⟨k1, h1⟩ := opC_cont P H _ _ _ _ hq
        obtain ⟨k2, h2⟩ := drawC_cont ops K r rest _ _ _ _ hk
        refine ⟨max k1 k2, ?_⟩
        rw [drawC]
        refine hg _ _ ?_
        simp only [hcl]
        rw [opC_eq, opC_mono P H (aN_max P H k1 k2) _ _ _ _ h1]
        exact drawC_mono P H (aN_max' P H k1 k2) ops K r rest _ _ _ _ h2
      · cases hbr : besideRead ops i <;> rw [hbr] at he <;> simp only [cond_true, cond_false] at he
        · rw [opC_eq] at he
          obtain ⟨q, hq, hk⟩ := Option.bind_eq_some_iff.1 he
          obtain ⟨k1, h1⟩ := opC_cont P H _ _ _ _ hq
          obtain ⟨k2, h2⟩ := drawC_cont ops K r rest _ _ _ _ hk
          refine ⟨max k1 k2, ?_⟩
          rw [drawC]
          refine hg _ _ ?_
          simp only [hcl, hbr, cond_false]
          rw [opC_eq, opC_mono P H (aN_max P H k1 k2) _ _ _ _ h1]
          exact drawC_mono P H (aN_max' P H k1 k2) ops K r rest _ _ _ _ h2
        · rw [opC_eq] at he
          obtain ⟨q, hq, hk⟩ := Option.bind_eq_some_iff.1 he
          obtain ⟨hb, hk⟩ := needC_some hk
          obtain ⟨k1, h1⟩ := opC_cont P H _ _ _ _ hq
          obtain ⟨k2, h2⟩ := drawC_cont ops K r rest _ _ _ _ hk
          refine ⟨max k1 k2, ?_⟩
          rw [drawC]
          refine hg _ _ ?_
          simp only [hcl, hbr, cond_true]
          rw [opC_eq, opC_mono P H (aN_max P H k1 k2) _ _ _ _ h1]
          simp only [Option.bind_some]
          rw [hb]
          exact drawC_mono P H (aN_max' P H k1 k2) ops K r rest _ _ _ _ h2
    · obtain ⟨k, hk⟩ := drawC_cont ops K r rest _ _ _ _ he
      refine ⟨k, ?_⟩
      rw [drawC]
      exact hg _ _ hk

theorem loopN_cont (m : Env → Env) (Dl : Env → Hp → Option Out) (D : Nat → Env → Hp → Option Out) (hup : ∀ j k e h v, D j e h = some v → D (max j k) e h = some v) (hD : ∀ e h v, Dl e h = some v → ∃ k, D k e h = some v) :
    ∀ (n : Nat) (e : Env) (h : Hp) (v : Out), loopN Dl m n e h = some v → ∃ k, loopN (D k) m n e h = some v
  | 0, _, _, _, hv => by cases hv
  | n + 1, e, h, v, hv => by
    rw [loopN] at hv
    obtain ⟨q, hq, hk⟩ := Option.bind_eq_some_iff.1 hv
    obtain ⟨k1, h1⟩ := hD _ _ _ hq
    obtain ⟨ex, e', h'⟩ := q
    cases ex with
    | normal =>
      obtain ⟨k2, h2⟩ := loopN_cont m Dl D hup hD n e' h' v hk
      refine ⟨max k1 k2, ?_⟩
      rw [loopN, hup k1 k2 _ _ _ h1]
      refine loopN_mono m (fun e h v hv => ?_) n e' h' v h2
      rw [Nat.max_comm]
      exact hup k2 k1 _ _ _ hv
    | exit i => exact ⟨k1, by rw [loopN, h1]; exact hk⟩
    | ret => exact ⟨k1, by rw [loopN, h1]; exact hk⟩

theorem codeC_cont (f : FuncId) (nt : Nat) (c : Code) : ∀ {R : Type} (e : Env) (h : Hp) (K : Ex → Env → Hp → Option R) (r : R), codeC P H (arun P H) f nt c R e h K = some r → ∃ k, codeC P H (aN P H k) f nt c R e h K = some r := by
  induction c with
  | skip => intro R e h K r hr; exact ⟨0, hr⟩
  | label l => intro R e h K r hr; exact ⟨0, hr⟩
  | exit i => intro R e h K r hr; exact ⟨0, hr⟩
  | ret => intro R e h K r hr; exact ⟨0, hr⟩
  | region id ops draw =>
    intro R e h K r hr
    unfold codeC at hr ⊢
    cases hd : dstsOk nt ops <;> rw [hd] at hr <;> simp only [cond_true, cond_false] at hr ⊢
    · cases hr
    cases draw <;> simp only [cond_true, cond_false] at hr ⊢
    · exact opsC_cont P H ops _ r _ _ _ hr
    · cases ho : okDraw ops <;> rw [ho] at hr <;> simp only [cond_true, cond_false] at hr ⊢
      · cases hr
      exact drawC_cont P H ops _ r _ _ _ _ _ hr
  | seq a b iha ihb =>
    intro R e h K r hr
    unfold codeC at hr
    rw [codeC_eq] at hr
    obtain ⟨q, hq, hk⟩ := Option.bind_eq_some_iff.1 hr
    obtain ⟨k1, h1⟩ := iha _ _ _ _ hq
    obtain ⟨ex, e', h'⟩ := q
    have fin : ∀ k2, seqK (fun e' h' => codeC P H (aN P H k2) f nt b R (maskE H f b e') h' K) K ex e' h' = some r → ∃ k, codeC P H (aN P H k) f nt (.seq a b) R e h K = some r := by
      intro k2 h2
      refine ⟨max k1 k2, ?_⟩
      unfold codeC
      rw [codeC_eq]
      have h1' : codeD P H (aN P H (max k1 k2)) f nt a e h = some (ex, e', h') := codeC_mono P H (aN_max P H k1 k2) f nt a _ _ _ _ _ (fun _ _ _ hx => hx) h1
      rw [h1']
      simp only [Option.bind_some]
      cases ex with
      | normal => exact codeC_mono P H (aN_max' P H k1 k2) f nt b _ _ _ _ _ (fun _ _ _ hx => hx) h2
      | exit i => exact h2
      | ret => exact h2
    cases ex with
    | normal =>
      obtain ⟨k2, h2⟩ := ihb _ _ _ _ hk
      exact fin k2 h2
    | exit i => exact fin 0 hk
    | ret => exact fin 0 hk
  | cond x a b iha ihb =>
    intro R e h K r hr
    unfold codeC at hr ⊢
    split at hr
    · split at hr
      · split at hr
        · exact iha _ _ _ _ hr
        · exact ihb _ _ _ _ hr
      · cases hr
    · split at hr
      · exact iha _ _ _ _ hr
      · exact ihb _ _ _ _ hr
    · cases hr
  | block id b ih =>
    intro R e h K r hr
    unfold codeC at hr ⊢
    exact ih _ _ _ _ hr
  | loop b ih =>
    intro R e h K r hr
    unfold codeC at hr ⊢
    obtain ⟨q, hq, hk⟩ := Option.bind_eq_some_iff.1 hr
    obtain ⟨n, hn⟩ := lfp_some hq
    obtain ⟨k, hk'⟩ := loopN_cont (maskE H f b) _ (fun k e h => codeC P H (aN P H k) f nt b Out e h fun ex e h => some (ex, e, h))
      (fun j k e h v hv => codeC_mono P H (aN_max P H j k) f nt b _ _ _ _ _ (fun _ _ _ hx => hx) hv) (fun e h v hv => ih _ _ _ _ hv) n e h q hn
    refine ⟨k, ?_⟩
    have : loopD (fun e h => codeC P H (aN P H k) f nt b Out e h fun ex e h => some (ex, e, h)) (maskE H f b) e h = some q :=
      lfp_eq (F := fun n => loopN _ (maskE H f b) n e h) (fun n v => loopN_up _ _ n e h v) hk'
    rw [this]
    exact hk
  | rangeFunc => intro R e h K r hr; cases hr
  | scope => intro R e h K r hr; cases hr
  | goto => intro R e h K r hr; cases hr
  | refuse => intro R e h K r hr; cases hr

/-- A CALL, BY ITS BODY. -/
theorem arun_fun (f : FuncId) (args : List Value) (h : Hp) : arun P H f args h = funC P H (arun P H) f args h := by
  apply Option.ext
  intro r
  constructor
  · intro hr
    obtain ⟨k, hk⟩ := arun_some P H hr
    cases k with
    | zero => cases hk
    | succ k => exact funC_mono P H (fun g as h r hr => arun_of P H k g as h r hr) f args h r hk
  · intro hr
    have : ∃ k, funC P H (aN P H k) f args h = some r := by
      unfold funC at hr ⊢
      split at hr
      · split at hr
        · rename_i fn hf _ c hc
          cases hn : fn.name == "runtime.NumGoroutine" <;> rw [hn] at hr
          · obtain ⟨k, hk⟩ := codeC_cont P H _ _ _ _ _ _ _ hr
            exact ⟨k, hk⟩
          · cases hr
        · cases hr
      · cases hr
    obtain ⟨k, hk⟩ := this
    exact arun_of P H (k + 1) f args h r hk

theorem arun_eq {f : FuncId} {fn : Func} {c : Code} (hf : P.funcs[f]? = some fn) (hc : fn.body = some c) (hn : (fn.name == "runtime.NumGoroutine") = false) (args : List Value) (h : Hp) :
    arun P H f args h = codeC P H (arun P H) f (max args.length fn.ntmps) c (Value × Hp) (envFrom args 0) h (resK P fn) := by
  rw [arun_fun]
  unfold funC
  simp only [hf, hc, hn, cond_false]
end
end Go.Proofs.Ytcdeeppiljcddaa.AM
