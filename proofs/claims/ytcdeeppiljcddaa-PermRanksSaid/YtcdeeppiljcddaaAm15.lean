/- AM, the fifteenth part: regions in the text's order. Conditions: none. -/
import Derived.Test.YtcdeeppiljcddaaAm14
namespace Go.Proofs.Ytcdeeppiljcddaa.AM
open Go Go.RowKit
set_option linter.unusedSectionVars false
set_option linter.unusedSimpArgs false
set_option linter.unusedVariables false

/-- What a call of the evaluator's comes to comes about. -/
def CallOK (P : Program) (B : Nat) (W : World) (call : FuncId → List Value → Hp → Option (Value × Hp)) : Prop :=
  ∀ g as h v h', call g as h = some (v, h') → (∃ fn c, P.funcs[g]? = some fn ∧ fn.body = some c ∧ (fn.name == "runtime.NumGoroutine") = false) ∧
    ∀ ρ w as', Sim B W ρ h w → VRels B ρ as as'.toList → Calls P g as' w fun e w' => ∃ v', e = .returned v' ∧ Post B W ρ h' v v' w'

section
variable {B : Nat} {W : World} {ρ : Places} {h h' : Hp} {w : World} {P : Program} {H : Hint} {call : FuncId → List Value → Hp → Option (Value × Hp)}

/-- The frame goes with the environment. -/
structure FrameRel (B : Nat) (ρ : Places) (nt : Nat) (e : Env) (a : Act) : Prop where
  env : EnvRel B ρ e a.tmps
  size : a.tmps.size = nt
  defers : a.defers = []

theorem EnvRel.mono {ρ' : Places} {e : Env} {t : Array Value} (h : EnvRel B ρ e t) (hle : LeP ρ ρ') : EnvRel B ρ' e t := fun i => (h i).mono hle
theorem FrameRel.mono {ρ' : Places} {nt : Nat} {e : Env} {a : Act} (h : FrameRel B ρ nt e a) (hle : LeP ρ ρ') : FrameRel B ρ' nt e a := ⟨h.env.mono hle, h.size, h.defers⟩
theorem FrameRel.same {nt : Nat} {e e' : Env} {a : Act} (h : FrameRel B ρ nt e a) (he : ∀ t, e'.get t = e.get t) : FrameRel B ρ nt e' a := ⟨fun t => by rw [he]; exact h.env t, h.size, h.defers⟩
theorem get_put (e : Env) (d : Option Nat) (v : Value) (t : Nat) : (e.put d v).get t = if d = some t then v else e.get t := by
  cases d with
  | none => rfl
  | some d =>
    simp only [Env.put, Env.get, Option.some.injEq]
    by_cases h : d = t
    · subst h; simp
    · have : (d == t) = false := by simpa using h
      simp [h, this]
theorem FrameRel.put {nt : Nat} {e : Env} {a : Act} (h : FrameRel B ρ nt e a) {d : Option Nat} (hd : ∀ x, d = some x → x < nt) {v v' : Value} (hv : VRel B ρ v v') : FrameRel B ρ nt (e.put d v) (a.put d v') := by
  refine ⟨fun t => ?_, ?_, ?_⟩
  · rw [get_put]
    cases d with
    | none => simpa [Act.put] using h.env t
    | some x =>
      have hx := hd x rfl
      simp only [Act.put, Option.some.injEq]
      by_cases hxt : x = t
      · subst hxt
        have hlt : x < a.tmps.size := by rw [h.size]; exact hx
        simp [Array.getD, hlt]
        exact hv
      · rw [if_neg hxt]
        have : (a.tmps.setIfInBounds x v').getD t undef = a.tmps.getD t undef := by
          simp only [Array.getD_eq_getD_getElem?]
          rw [Array.getElem?_setIfInBounds_ne hxt]
        rw [this]
        exact h.env t
  · cases d <;> simp [Act.put, h.size]
  · cases d <;> simp [Act.put, h.defers]

theorem eval_rel {nt : Nat} {e : Env} {a : Act} (h : FrameRel B ρ nt e a) {x : Operand} (hx : operandOk x = true) : VRel B ρ (e.eval x) (a.eval x) := by
  cases x with
  | tmp t => exact h.env t
  | const v => exact rel_plain hx
  | global g => cases hx
  | func f => exact .func _ .nil .nil

theorem guardC_sound {R : Type} {r : R} {nt : Nat} {e : Env} {a : Act} (hf : FrameRel B ρ nt e a) {ops : Array Oper} {o : Oper} {yes no : Env → Option R} (hg : guardC ops o e yes no = some r) :
    (∃ e', (∀ t, e'.get t = e.get t) ∧ yes e' = some r ∧ Region.wanted o (yielded ops a.tmps) = true) ∨ (∃ e', (∀ t, e'.get t = e.get t) ∧ no e' = some r ∧ Region.wanted o (yielded ops a.tmps) = false) := by
  unfold guardC at hg
  split at hg
  · rename_i hgu
    exact .inl ⟨e, fun _ => rfl, hg, by simp [Region.wanted, hgu]⟩
  · rename_i g want hgu
    split at hg
    · rename_i d hd
      have hrel := hf.env d
      split at hg
      · rename_i b hb
        rw [hb] at hrel
        have htm : a.tmps[d]? = some (.bool b) := by
          generalize hq : a.tmps.getD d undef = q at hrel
          cases hrel
          rw [Array.getD_eq_getD_getElem?] at hq
          cases hx : a.tmps[d]? with
          | none => rw [hx] at hq; cases hq
          | some u => rw [hx] at hq; simp at hq; rw [hq]
        have hy : yielded ops a.tmps g = some b := by
          unfold yielded
          rw [hd]
          simp [htm]
        have hsame : ∀ t, Env.get ((d, .bool b) :: e) t = e.get t := by
          intro t
          simp only [Env.get]
          by_cases h : d = t
          · subst h; simp [hb]
          · have : (d == t) = false := by simpa using h
            simp [this]
        have hw : Region.wanted o (yielded ops a.tmps) = (some b == some want) := by
          simp [Region.wanted, hgu, hy]
        split at hg <;> split at hg
        · exact .inl ⟨_, hsame, hg, by rw [hw]; rfl⟩
        · exact .inr ⟨_, hsame, hg, by rw [hw]; rfl⟩
        · exact .inr ⟨_, hsame, hg, by rw [hw]; rfl⟩
        · exact .inl ⟨_, hsame, hg, by rw [hw]; rfl⟩
      · rename_i vs hvs
        rw [hvs] at hrel
        cases hem : vs.isEmpty <;> rw [hem] at hg
        · cases hg
        · have hy : yielded ops a.tmps g = none := by
            unfold yielded
            rw [hd]
            generalize hq : a.tmps.getD d undef = q at hrel
            cases hrel
            rw [Array.getD_eq_getD_getElem?] at hq
            cases hx : a.tmps[d]? with
            | none => simp [hx]
            | some u =>
              rw [hx] at hq
              simp at hq
              simp [hx, hq]
          exact .inr ⟨e, fun _ => rfl, hg, by simp [Region.wanted, hgu, hy]⟩
      · cases hg
    · cases hg

theorem upon_next {o : Oper} {a : Act} {next : Act → World → Prop} {Q : Exit → Act → World → Prop} {n : Next} {v' : Value} {w' : World} (hr : (execOp a.eval o).run P w = .ok n w') (hn : n = .value v' ∨ (n = .skip ∧ v' = undef)) (hnext : next (a.put o.dst v') w') : o.wp P a w next Q := by
  unfold Oper.wp
  rw [hr]
  rcases hn with rfl | ⟨rfl, rfl⟩
  · exact hnext
  · exact hnext

/-- One operation, whichever. -/
theorem op_wp' (hq : EqOK P H.eqt) (hc : CallOK P B W call) (s : Sim B W ρ h w) {e : Env} {a : Act} {o : Oper} (hv : ∀ x ∈ o.op.operands.toList, VRel B ρ (e.eval x) (a.eval x)) {v : Value}
    (hk : opC P H call e.eval o h (fun v h => some (v, h)) = some (v, h')) {next : Act → World → Prop} {Q : Exit → Act → World → Prop}
    (hnext : ∀ v' w', Post B W ρ h' v v' w' → next (a.put o.dst v') w') : o.wp P a w next Q := by
  cases hb : callB o with
  | false =>
    obtain ⟨n, v', w', h1, h2, h3⟩ := opC_sound hq s hv hb hk
    exact upon_next h1 h2 (hnext v' w' h3)
  | true =>
    obtain ⟨f, args, ts, heq, e1⟩ := opC_call P H call e.eval o h (fun v h => some (v, h)) hb
    rw [e1] at hk
    have hfv := hv f (by rw [heq]; simp [Op.operands, Call.operands])
    have hargs := rels_args (B := B) (ρ := ρ) (args := args) (ev := e.eval) (ev' := a.eval) (fun x hx => hv x (by rw [heq]; simp [Op.operands, Call.operands]; exact .inr (by simpa using hx)))
    unfold callC at hk
    split at hk
    · rename_i g first captured hfe
      rw [hfe] at hfv
      generalize hfc : a.eval f = fc at hfv
      cases hfv with
      | func _ h1 h2 =>
        rename_i first' captured'
        split at hk
        · rename_i i hi
          obtain ⟨q, hcall, hk1⟩ := Option.bind_eq_some_iff.1 hk
          obtain ⟨v0, hh⟩ := q
          have hkv : some (v0, hh) = some (v, h') := by
            split at hk1
            · exact like3C_some (K := fun v => some (v, hh)) hk1
            · exact hk1
          cases hkv
          obtain ⟨⟨fn, c, g1, g2, g3⟩, hcalls⟩ := hc g _ h v h' hcall
          have hrun : (execOp a.eval o).run P w = .ok (.enter g (first' ++ args.map a.eval ++ captured')) w := by
            have : o.op = .call { callee := .value f, args := args, argTypes := ts } := heq
            unfold execOp
            rw [this]
            have g3' : (fn.name == "runtime.NumGoroutine") = false := g3
            have g2' : fn.body.isNone = false := by rw [g2]; rfl
            simp only [Sem.run_bind, resolve, hfc, Deferred.ofValue, Sem.run_pure, Result.andThen_ok, invoke, callFunc, run_program, g1]
            rw [g3', g2']
            rfl
          unfold Oper.wp
          rw [hrun]
          refine (hcalls ρ w (first' ++ args.map a.eval ++ captured') s ?_).mono ?_
          · simp only [Array.toList_append]
            exact (h1.append hargs).append h2
          · rintro e' w' ⟨v', rfl, hp⟩
            exact hnext v' w' hp
        · cases hk
    · cases hk

theorem op_wp (hq : EqOK P H.eqt) (hc : CallOK P B W call) (s : Sim B W ρ h w) {nt : Nat} {e : Env} {a : Act} (hf : FrameRel B ρ nt e a) {o : Oper} (ho : o.op.operands.toList.all operandOk = true) {v : Value}
    (hk : opC P H call e.eval o h (fun v h => some (v, h)) = some (v, h')) {next : Act → World → Prop} {Q : Exit → Act → World → Prop}
    (hnext : ∀ v' w', Post B W ρ h' v v' w' → next (a.put o.dst v') w') : o.wp P a w next Q :=
  op_wp' hq hc s (fun x hx => eval_rel hf (List.all_eq_true.1 ho x hx)) hk hnext

theorem opsC_sound (hq : EqOK P H.eqt) (hc : CallOK P B W call) {nt : Nat} {ops : Array Oper} (hst : dstsOk nt ops = true) {R : Type} {r : R} {K : Env → Hp → Option R} {Q : Exit → Act → World → Prop} :
    ∀ (l : List Oper) (i : Nat) (ρ : Places) (e : Env) (h : Hp) (a : Act) (w : World), ops.toList.drop i = l → opsC P H call ops l e h K = some r → Sim B W ρ h w → FrameRel B ρ nt e a →
      (∀ ρ' e' h' a' w', LeP ρ ρ' → Sim B W ρ' h' w' → FrameRel B ρ' nt e' a' → K e' h' = some r → Q .normal a' w') → wpOps P ops Q (List.range' i l.length) a w
  | [], i, ρ, e, h, a, w, hl, hk, s, hf, hQ => by
    simp only [List.length_nil, List.range'_zero, wpOps]
    exact hQ ρ e h a w (LeP.refl ρ) s hf hk
  | o :: rest, i, ρ, e, h, a, w, hl, hk, s, hf, hQ => by
    have hi : ops[i]? = some o := by
      have : (ops.toList.drop i)[0]? = some o := by rw [hl]; rfl
      rw [List.getElem?_drop] at this
      simpa using this
    have hrest : ops.toList.drop (i + 1) = rest := by
      have : (ops.toList.drop i).drop 1 = rest := by rw [hl]; rfl
      rwa [List.drop_drop] at this
    have hmem : o ∈ ops.toList := List.mem_of_getElem? (by simpa using hi)
    have hso := List.all_eq_true.1 hst o hmem
    simp only [Bool.and_eq_true] at hso
    have hdst : ∀ x, o.dst = some x → x < nt := by
      intro x hx
      have := hso.1
      rw [hx] at this
      exact of_decide_eq_true this
    simp only [List.length_cons, List.range'_succ, wpOps, hi]
    rw [opsC] at hk
    rcases guardC_sound hf hk with ⟨e', he, hy, hw⟩ | ⟨e', he, hn, hw⟩
    · rw [hw, if_pos rfl]
      rw [opC_eq] at hy
      obtain ⟨q, hq1, hq2⟩ := Option.bind_eq_some_iff.1 hy
      obtain ⟨v, hh⟩ := q
      refine .inl (op_wp hq hc s (hf.same he) hso.2 hq1 ?_)
      rintro v' w' ⟨ρ', hle, s', hvr⟩
      exact opsC_sound hq hc hst rest (i + 1) ρ' _ _ _ _ hrest hq2 s' (((hf.same he).mono hle).put hdst hvr) (fun ρ2 e2 h2 a2 w2 l2 => hQ ρ2 e2 h2 a2 w2 (hle.trans l2))
    · rw [hw, if_neg (by simp)]
      exact opsC_sound hq hc hst rest (i + 1) ρ _ _ _ _ hrest hn s ((hf.same he).put hdst (.tuple .nil)) hQ
end
end Go.Proofs.Ytcdeeppiljcddaa.AM
