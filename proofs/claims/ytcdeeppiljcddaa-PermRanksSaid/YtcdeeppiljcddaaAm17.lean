/- AM, the seventeenth part: what operations that act leave as it was. Conditions: none. -/
import Derived.Test.YtcdeeppiljcddaaAm16
namespace Go.Proofs.Ytcdeeppiljcddaa.AM
open Go Go.RowKit
set_option linter.unusedSectionVars false
set_option linter.unusedSimpArgs false
set_option linter.unusedVariables false

def CallStep (call : FuncId → List Value → Hp → Option (Value × Hp)) : Prop := ∀ g as h v h', call g as h = some (v, h') → HpStep h h'
section
variable {h h' : Hp} {P : Program} {H : Hint} {call : FuncId → List Value → Hp → Option (Value × Hp)}

theorem le_alloc (hw : HpWf h) (cs : List Value) (sz : Nat) (par : List Nat) : HpLe h (h.alloc cs sz par) :=
  ⟨rfl, rfl, fun r b hb => ⟨b, by rw [alloc_new, if_neg (by have := hw.new r b hb; omega)]; exact hb, rfl, rfl⟩, fun _ _ h => h⟩
theorem le_seal (h : Hp) (q : Nat) : HpLe h (h.fence q) :=
  ⟨rfl, rfl, fun r b hb => by
    rw [seal_new]
    split
    · exact ⟨{ b with rw := false }, by rw [hb]; rfl, rfl, rfl⟩
    · exact ⟨b, hb, rfl, rfl⟩, fun _ _ h => h⟩
theorem le_allocMap (hw : HpWf h) : HpLe h h.allocMap :=
  ⟨rfl, rfl, fun r b hb => ⟨b, hb, rfl, rfl⟩, fun r es hm => by
    have := hw.maps r es hm
    unfold Hp.allocMap
    have : (r == h.next) = false := by simp; omega
    simp only [this, cond_false]
    exact hm⟩

theorem stC_step {R : Type} {r : R} {a : Addr} {vs : List Value} {K : Hp → Option R} (hk : h.stC a vs K = some r) : ∃ h2, K h2 = some r ∧ HpStep h h2 := by
  unfold Hp.stC at hk
  split at hk
  · rename_i b hb
    obtain ⟨_, hk1⟩ := needC_some hk
    exact ⟨_, hk1, step_write _ _ _ b hb _ _⟩
  · cases hk
theorem growC_step {R : Type} {r : R} {s bytes : Nat} {a : Option Addr} {n c m : Nat} {vs : List Value} {K : Value → Hp → Option R} (hk : growC h s bytes a n c m vs K = some r) : ∃ v h2, K v h2 = some r ∧ HpStep h h2 ∧ (HpWf h → HpLe h h2) := by
  unfold growC growT at hk
  cases hm : decide (m = 0) <;> rw [hm] at hk <;> simp only [cond_true, cond_false] at hk
  · obtain ⟨_, hk1⟩ := needC_some hk
    split at hk1
    · obtain ⟨_, hk2⟩ := needC_some hk1
      exact ⟨_, _, hk2, step_alloc _ _ _ _, fun hw => le_alloc hw _ _ _⟩
    · split at hk1
      · obtain ⟨_, hk2⟩ := needC_some hk1
        exact ⟨_, _, hk2, (step_seal _ _).trans (step_alloc _ _ _ _), fun hw => (le_seal _ _).trans (le_alloc (wf_seal hw _) _ _ _)⟩
      · obtain ⟨_, hk2⟩ := needC_some hk1
        split at hk2
        · exact ⟨_, _, hk2, step_alloc _ _ _ _, fun hw => le_alloc hw _ _ _⟩
        · cases hk2
  · obtain ⟨_, hk1⟩ := needC_some hk
    exact ⟨_, _, hk1, HpStep.refl h, fun _ => HpLe.refl h⟩
theorem srcC_some {R : Type} {r : R} {s n : Nat} {x : Value} {K : List Value → Option R} (hk : srcC h s n x K = some r) : ∃ vs, K vs = some r := by
  unfold srcC at hk
  split at hk
  · split at hk
    · exact ⟨_, hk⟩
    · cases hk
  · exact ⟨_, hk⟩
  · obtain ⟨_, hk1⟩ := needC_some hk
    exact ⟨_, hk1⟩
  · cases hk
theorem appendC_step {R : Type} {r : R} {ts : List TypeId} {as : List Value} {K : Value → Hp → Option R} (hk : appendC P ts as h K = some r) : ∃ v h2, K v h2 = some r ∧ HpStep h h2 ∧ (HpWf h → HpLe h h2) := by
  unfold appendC at hk
  split at hk
  · obtain ⟨_, _, hk⟩ := elemC_some hk
    obtain ⟨_, _, hk⟩ := sizeC_some hk
    obtain ⟨_, _, _, _, _, hk⟩ := zeroC_some hk
    obtain ⟨_, hk⟩ := needC_some hk
    split at hk
    · split at hk
      · obtain ⟨_, _, _, _, hk⟩ := asSliceC_some hk
        obtain ⟨_, _, _, _, hk⟩ := asSliceC_some hk
        obtain ⟨_, hk⟩ := srcC_some hk
        exact growC_step hk
      · obtain ⟨_, _, _, _, hk⟩ := asSliceC_some hk
        obtain ⟨_, _, hk⟩ := asStrC_some hk
        obtain ⟨_, hk⟩ := srcC_some hk
        exact growC_step hk
      · cases hk
    · cases hk
  · cases hk
theorem putC_step {R : Type} {r : R} {s : Nat} {a : Option Addr} {k : Nat} {vs : List Value} {K : Value → Hp → Option R} (hk : putC h s a k vs K = some r) : ∃ v h2, K v h2 = some r ∧ HpStep h h2 := by
  unfold putC putT at hk
  cases hm : decide (k = 0) <;> rw [hm] at hk <;> simp only [cond_true, cond_false] at hk
  · split at hk
    · obtain ⟨_, hk⟩ := needC_some hk
      obtain ⟨h2, a, b⟩ := stC_step hk
      exact ⟨_, h2, a, b⟩
    · cases hk
  · exact ⟨_, _, hk, HpStep.refl h⟩
theorem copyC_step {R : Type} {r : R} {ts : List TypeId} {as : List Value} {K : Value → Hp → Option R} (hk : copyC P ts as h K = some r) : ∃ v h2, K v h2 = some r ∧ HpStep h h2 := by
  unfold copyC at hk
  split at hk
  · obtain ⟨_, _, hk⟩ := elemC_some hk
    obtain ⟨_, _, hk⟩ := sizeC_some hk
    obtain ⟨_, _, _, _, hk⟩ := asSliceC_some hk
    split at hk
    · obtain ⟨_, _, _, _, hk⟩ := asSliceC_some hk
      obtain ⟨_, hk⟩ := srcC_some hk
      exact putC_step hk
    · obtain ⟨_, _, hk⟩ := asStrC_some hk
      obtain ⟨_, hk⟩ := srcC_some hk
      exact putC_step hk
    · cases hk
  · cases hk
theorem mapPutC_step {R : Type} {r : R} {t : TypeId} {m key v : Value} {K : Hp → Option R} (hk : mapPutC P t m key v h K = some r) : ∃ h2, K h2 = some r ∧ HpStep h h2 := by
  unfold mapPutC at hk
  obtain ⟨_, _, _, hk⟩ := mapTypeC_some hk
  obtain ⟨_, hk⟩ := needC_some hk
  obtain ⟨_, _, hk⟩ := asMapC_some hk
  split at hk
  · cases hk
  · split at hk
    · rename_i es hes
      split at hk
      · exact ⟨_, hk, step_putMap _ _ _ es hes⟩
      · cases hk
    · cases hk
theorem mapDropC_step {R : Type} {r : R} {ts : List TypeId} {as : List Value} {K : Value → Hp → Option R} (hk : mapDropC P ts as h K = some r) : ∃ v h2, K v h2 = some r ∧ HpStep h h2 := by
  unfold mapDropC at hk
  split at hk
  · obtain ⟨_, _, _, hk⟩ := mapTypeC_some hk
    obtain ⟨_, hk⟩ := needC_some hk
    obtain ⟨_, _, hk⟩ := asMapC_some hk
    split at hk
    · exact ⟨_, _, hk, HpStep.refl h⟩
    · split at hk
      · rename_i es hes
        split at hk
        · exact ⟨_, _, hk, step_putMap _ _ _ es hes⟩
        · cases hk
      · cases hk
  · cases hk
theorem callC_step (hcs : CallStep call) {f : Value} {as : List Value} {t : TypeId} {v : Value} (hk : callC P call f as t h (fun v h => some (v, h)) = some (v, h')) : HpStep h h' := by
  unfold callC at hk
  split at hk
  · split at hk
    · obtain ⟨q, h1, h2⟩ := Option.bind_eq_some_iff.1 hk
      obtain ⟨v0, hh⟩ := q
      have : some (v0, hh) = some (v, h') := by
        split at h2
        · exact like3C_some (K := fun v => some (v, hh)) h2
        · exact h2
      cases this
      exact hcs _ _ _ _ _ h1
    · cases hk
  · cases hk

theorem opC_step (hcs : CallStep call) {ev : Operand → Value} {o : Oper} {v : Value} (hk : opC P H call ev o h (fun v h => some (v, h)) = some (v, h')) : HpStep h h' ∧ (makesB o = true → callB o = false → HpWf h → HpLe h h') := by
  cases hc : actsB o with
  | false =>
    have := opC_quiet hc hk
    subst this
    exact ⟨HpStep.refl _, fun _ _ _ => HpLe.refl _⟩
  | true =>
    unfold opC at hk
    split at hk <;> first
      | (rename_i heq; simp [actsB, cls, heq] at hc; done)
      | skip
    · -- alloc
      obtain ⟨_, _, _, _, _, hk⟩ := zeroC_some hk
      cases hk
      exact ⟨step_alloc _ _ _ _, fun _ _ hw => le_alloc hw _ _ _⟩
    · -- box
      obtain ⟨_, hk⟩ := needC_some hk
      cases hk
      exact ⟨step_alloc _ _ _ _, fun _ _ hw => le_alloc hw _ _ _⟩
    · -- buildSlice
      obtain ⟨_, _, hk⟩ := elemC_some hk
      obtain ⟨_, _, hk⟩ := sizeC_some hk
      obtain ⟨_, hk⟩ := needC_some hk
      obtain ⟨_, _, _, _, _, hk⟩ := zeroC_some hk
      obtain ⟨_, hk⟩ := needC_some hk
      split at hk
      · cases hk
        exact ⟨step_alloc _ _ _ _, fun _ _ hw => le_alloc hw _ _ _⟩
      · cases hk
    · -- store
      rename_i heq
      obtain ⟨_, _, hk⟩ := asPtrC_some hk
      split at hk
      · obtain ⟨_, _, hk⟩ := sizeC_some hk
        obtain ⟨_, hk⟩ := needC_some hk
        obtain ⟨h2, e, s⟩ := stC_step hk
        cases e
        exact ⟨s, fun hm => by simp [makesB, heq] at hm⟩
      · cases hk
    · -- makeMap
      obtain ⟨_, _, _, hk⟩ := mapTypeC_some hk
      cases hk
      exact ⟨step_allocMap _, fun _ _ hw => le_allocMap hw⟩
    · -- makeSlice
      obtain ⟨_, _, hk⟩ := elemC_some hk
      split at hk
      · obtain ⟨_, _, _, _, _, hk⟩ := zeroC_some hk
        split at hk
        · split at hk
          · obtain ⟨_, hk⟩ := needC_some hk
            cases hk
            exact ⟨step_alloc _ _ _ _, fun _ _ hw => le_alloc hw _ _ _⟩
          · cases hk
        · cases hk
      · cases hk
    · -- mapUpdate
      rename_i heq
      obtain ⟨h2, e, s⟩ := mapPutC_step hk
      cases e
      exact ⟨s, fun hm => by simp [makesB, heq] at hm⟩
    · -- builtins
      rename_i b args ts heq
      cases b <;> first
        | (simp [actsB, cls, heq] at hc; done)
        | (cases hk; done)
        | skip
      · obtain ⟨_, h2, e, s, hl⟩ := appendC_step hk
        cases e
        exact ⟨s, fun _ _ hw => hl hw⟩
      · obtain ⟨_, h2, e, s⟩ := copyC_step hk
        cases e
        exact ⟨s, fun hm => by simp [makesB, heq] at hm⟩
      · obtain ⟨_, h2, e, s⟩ := mapDropC_step hk
        cases e
        exact ⟨s, fun hm => by simp [makesB, heq] at hm⟩
    · -- call
      rename_i heq
      exact ⟨callC_step hcs hk, fun _ hb => by simp [callB, heq] at hb⟩
    · cases hk

/-- A call, of which it is asked that it write nothing that was there. -/
theorem le_of_low (hw : HpWf h) (s : HpStep { h with low := h.next } h') (hl : h.next ≤ h'.low) : HpLe h { h' with low := h.low } :=
  ⟨s.base, s.old, fun r b hb => s.new r b (hw.new r b hb) (Nat.lt_of_lt_of_le (hw.new r b hb) hl) hb, fun r es hm => s.maps r es (hw.maps r es hm) (Nat.lt_of_lt_of_le (hw.maps r es hm) hl) hm⟩
theorem relow_step (s : HpStep { h with low := h.next } h') (hl : h.next ≤ h'.low) : HpStep h { h' with low := h.low } :=
  ⟨s.base, s.old, s.next, Nat.le_refl _, fun r b h1 _ hb => s.new r b h1 (Nat.lt_of_lt_of_le h1 hl) hb, fun r es h1 _ hm => s.maps r es h1 (Nat.lt_of_lt_of_le h1 hl) hm, fun hw => ⟨(s.wf ⟨hw.new, hw.maps⟩).new, (s.wf ⟨hw.new, hw.maps⟩).maps⟩⟩

theorem opsC_step (hcs : CallStep call) {R : Type} {r : R} {ops : Array Oper} {K : Env → Hp → Option R} : ∀ (l : List Oper) (e : Env) (h : Hp), opsC P H call ops l e h K = some r → ∃ e' h', K e' h' = some r ∧ HpStep h h'
  | [], e, h, hk => ⟨e, h, hk, HpStep.refl h⟩
  | o :: rest, e, h, hk => by
    rw [opsC] at hk
    rcases guardC_cases hk with ⟨e', he, _⟩ | ⟨e', he, _⟩
    · rw [opC_eq] at he
      obtain ⟨q, hq, hk2⟩ := Option.bind_eq_some_iff.1 he
      obtain ⟨v, hh⟩ := q
      obtain ⟨e2, h2, a, b⟩ := opsC_step hcs rest _ _ hk2
      exact ⟨e2, h2, a, (opC_step hcs hq).1.trans b⟩
    · exact opsC_step hcs rest _ _ he
theorem drawC_step (hcs : CallStep call) {R : Type} {r : R} {ops : Array Oper} {K : Env → Hp → Option R} : ∀ (l : List Oper) (i : Nat) (e : Env) (h : Hp) (hs : List Hp), drawC P H call ops l i e h hs K = some r → ∃ e' h', K e' h' = some r ∧ HpStep h h'
  | [], i, e, h, hs, hk => ⟨e, h, hk, HpStep.refl h⟩
  | o :: rest, i, e, h, hs, hk => by
    rw [drawC] at hk
    rcases guardC_cases hk with ⟨e', he, _⟩ | ⟨e', he, _⟩
    · cases hcl : cls o <;> simp only [hcl] at he
      · rw [opC_eq] at he
        obtain ⟨q, hq, hk2⟩ := Option.bind_eq_some_iff.1 he
        exact drawC_step hcs rest _ _ _ _ hk2
      · rw [opC_eq] at he
        obtain ⟨q, hq, hk2⟩ := Option.bind_eq_some_iff.1 he
        exact drawC_step hcs rest _ _ _ _ hk2
      · cases hbr : besideRead ops i <;> rw [hbr] at he <;> simp only [cond_true, cond_false] at he
        · rw [opC_eq] at he
          obtain ⟨q, hq, hk2⟩ := Option.bind_eq_some_iff.1 he
          obtain ⟨v, hh⟩ := q
          obtain ⟨e2, h2, a, b⟩ := drawC_step hcs rest _ _ _ _ hk2
          exact ⟨e2, h2, a, (opC_step hcs hq).1.trans b⟩
        · rw [opC_eq] at he
          obtain ⟨q, hq, hk2⟩ := Option.bind_eq_some_iff.1 he
          obtain ⟨v, hh⟩ := q
          obtain ⟨hl, hk3⟩ := needC_some hk2
          obtain ⟨e2, h2, a, b⟩ := drawC_step hcs rest _ _ _ _ hk3
          exact ⟨e2, h2, a, (relow_step (opC_step hcs hq).1 (of_decide_eq_true hl)).trans b⟩
    · exact drawC_step hcs rest _ _ _ _ he
theorem loopN_step {D : Env → Hp → Option Out} {m : Env → Env} (hD : ∀ e h r, D e h = some r → HpStep h r.2.2) : ∀ (n : Nat) (e : Env) (h : Hp) (r : Out), loopN D m n e h = some r → HpStep h r.2.2
  | 0, _, _, _, hv => by cases hv
  | n + 1, e, h, v, hv => by
    rw [loopN] at hv
    obtain ⟨q, hq, hk⟩ := Option.bind_eq_some_iff.1 hv
    obtain ⟨ex, e', h'⟩ := q
    have s1 := hD _ _ _ hq
    cases ex with
    | normal => exact s1.trans (loopN_step hD n e' h' v hk)
    | exit i => cases hk; exact s1
    | ret => cases hk; exact s1
theorem codeC_step (hcs : CallStep call) (f : FuncId) (nt : Nat) (c : Code) : ∀ {R : Type} {r : R} {e : Env} {h : Hp} {K : Ex → Env → Hp → Option R}, codeC P H call f nt c R e h K = some r → ∃ ex e' h', K ex e' h' = some r ∧ HpStep h h' := by
  induction c with
  | skip => intro R r e h K hk; exact ⟨_, _, _, hk, HpStep.refl h⟩
  | label l => intro R r e h K hk; exact ⟨_, _, _, hk, HpStep.refl h⟩
  | exit i => intro R r e h K hk; exact ⟨_, _, _, hk, HpStep.refl h⟩
  | ret => intro R r e h K hk; exact ⟨_, _, _, hk, HpStep.refl h⟩
  | region id ops draw =>
    intro R r e h K hk
    unfold codeC at hk
    cases hd : dstsOk nt ops <;> rw [hd] at hk <;> simp only [cond_true, cond_false] at hk
    · cases hk
    cases draw <;> simp only [cond_true, cond_false] at hk
    · obtain ⟨e', h', a, b⟩ := opsC_step hcs _ _ _ hk
      exact ⟨_, _, _, a, b⟩
    · cases ho : okDraw ops <;> rw [ho] at hk <;> simp only [cond_true, cond_false] at hk
      · cases hk
      obtain ⟨e', h', a, b⟩ := drawC_step hcs _ _ _ _ _ hk
      exact ⟨_, _, _, a, b⟩
  | seq a b iha ihb =>
    intro R r e h K hk
    unfold codeC at hk
    obtain ⟨ex, e1, h1, k1, s1⟩ := iha hk
    cases ex with
    | normal =>
      obtain ⟨ex2, e2, h2, k2, s2⟩ := ihb k1
      exact ⟨ex2, e2, h2, k2, s1.trans s2⟩
    | exit i => exact ⟨_, _, _, k1, s1⟩
    | ret => exact ⟨_, _, _, k1, s1⟩
  | cond x a b iha ihb =>
    intro R r e h K hk
    unfold codeC at hk
    split at hk
    · split at hk
      · split at hk
        · exact iha hk
        · exact ihb hk
      · cases hk
    · split at hk
      · exact iha hk
      · exact ihb hk
    · cases hk
  | block id b ih =>
    intro R r e h K hk
    unfold codeC at hk
    obtain ⟨ex, e1, h1, k1, s1⟩ := ih hk
    cases ex with
    | normal => exact ⟨_, _, _, k1, s1⟩
    | exit i =>
      simp only [blockK] at k1
      cases hi : i == id <;> rw [hi] at k1
      · exact ⟨_, _, _, k1, s1⟩
      · exact ⟨_, _, _, k1, s1⟩
    | ret => exact ⟨_, _, _, k1, s1⟩
  | loop b ih =>
    intro R r e h K hk
    unfold codeC at hk
    obtain ⟨q, hq, hk2⟩ := Option.bind_eq_some_iff.1 hk
    obtain ⟨n, hn⟩ := lfp_some hq
    refine ⟨_, _, _, hk2, loopN_step (fun e h r hr => ?_) n e h q hn⟩
    obtain ⟨ex, e1, h1, k1, s1⟩ := ih hr
    cases k1
    exact s1
  | rangeFunc => intro R r e h K hk; cases hk
  | scope => intro R r e h K hk; cases hk
  | goto => intro R r e h K hk; cases hk
  | refuse => intro R r e h K hk; cases hk

theorem resK_heap {fn : Func} {ex : Ex} {e : Env} {v : Value} (hk : resK P fn ex e h = some (v, h')) : h' = h := by
  have gen : ∀ (rs : List ResultVar) (K : List Value → Option (Value × Hp)), (∀ vs, K vs = some (v, h') → h' = h) → resC P h e rs K = some (v, h') → h' = h := by
    intro rs
    induction rs with
    | nil => intro K hK hr; exact hK _ hr
    | cons x rs ih =>
      intro K hK hr
      cases x with
      | tmp t => exact ih _ (fun vs => hK _) hr
      | cell a t =>
        rw [resC] at hr
        obtain ⟨p, _, hr⟩ := asPtrC_some hr
        split at hr
        · rename_i ad _
          have e1 := loadC_bind (fun u => resC P h e rs fun vs => K (u :: vs)) P h t ad some
          simp only [Option.bind_some] at e1
          rw [← e1] at hr
          obtain ⟨u, _, hr2⟩ := Option.bind_eq_some_iff.1 hr
          exact ih _ (fun vs => hK _) hr2
        · cases hr
  cases ex with
  | exit i => cases hk
  | normal => exact gen _ _ (fun vs hv => by split at hv <;> (cases hv; rfl)) hk
  | ret => exact gen _ _ (fun vs hv => by split at hv <;> (cases hv; rfl)) hk

theorem aN_step (P : Program) (H : Hint) : ∀ (k : Nat), CallStep (aN P H k)
  | 0 => fun _ _ _ _ _ hk => by cases hk
  | k + 1 => fun g as h v h' hk => by
    have hk' : funC P H (aN P H k) g as h = some (v, h') := hk
    unfold funC at hk'
    split at hk'
    · split at hk'
      · rename_i fn _ _ c _
        cases hn : fn.name == "runtime.NumGoroutine" <;> rw [hn] at hk' <;> simp only [cond_true, cond_false] at hk'
        · obtain ⟨ex, e1, h1, k1, s1⟩ := codeC_step (aN_step P H k) _ _ _ hk'
          have := resK_heap k1
          subst this
          exact s1
        · cases hk'
      · cases hk'
    · cases hk'
theorem arun_step (P : Program) (H : Hint) : CallStep (arun P H) := fun g as h v h' hk => by
  obtain ⟨k, hk'⟩ := arun_some P H hk
  exact aN_step P H k g as h v h' hk'
end
end Go.Proofs.Ytcdeeppiljcddaa.AM
