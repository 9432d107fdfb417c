/- AM, the twenty-first part: code and calls: what the evaluator says comes about. Conditions: none. -/
import Derived.Test.YtcdeeppiljcddaaAm20
namespace Go.Proofs.Ytcdeeppiljcddaa.AM
open Go Go.RowKit
set_option linter.unusedSectionVars false
set_option linter.unusedSimpArgs false
set_option linter.unusedVariables false

def exitOf : Ex → Exit
  | .normal => .normal
  | .exit i => .exit i
  | .ret => .ret

/-- A loop, by how many rounds it goes. -/
theorem wp_loop_n {P : Program} {Q : Exit → Act → World → Prop} {c : Code} (J : Nat → Act → World → Prop) (zero : ∀ a w, ¬ J 0 a w)
    (round : ∀ n a w, J (n + 1) a w → c.wp P (Exit.then (fun a' w' => J n a' w') Q) a w) {n : Nat} {a : Act} {w : World} (h0 : J n a w) : (Code.loop c).wp P Q a w := by
  intro b k cs
  have key : ∀ n a w, J n a w → ∃ e a' w', Q e a' w' ∧ Arrives P (lone (b.at a (.code c :: .inLoop c :: k)) cs w) b k cs e a' w' := by
    intro n
    induction n with
    | zero => intro a w h; exact absurd h (zero a w)
    | succ n ih =>
      intro a w hI
      obtain ⟨e, a₁, w₁, hq, harr⟩ := round n a w hI b (.inLoop c :: k) cs
      cases e with
      | normal =>
        obtain ⟨e₂, a₂, w₂, hq₂, harr₂⟩ := ih a₁ w₁ hq
        exact ⟨e₂, a₂, w₂, hq₂, .of_steps (Steps.trans harr (.one step_inLoop)) harr₂⟩
      | exit id => exact ⟨_, a₁, w₁, hq, .pass (x := .inLoop c) rfl (fun _ _ => .inl (by simp)) harr⟩
      | goto l => exact ⟨_, a₁, w₁, hq, .pass (x := .inLoop c) rfl (fun _ _ => .inl (by simp)) harr⟩
      | ret => exact ⟨_, a₁, w₁, hq, .pass (x := .inLoop c) rfl (fun _ _ => .inl (by simp)) harr⟩
      | panic ch => exact ⟨_, a₁, w₁, hq, .pass (x := .inLoop c) rfl (fun _ _ => .inl (by simp)) harr⟩
      | outgrown => exact ⟨_, a₁, w₁, hq, .pass (x := .inLoop c) rfl (fun _ _ => .inl (by simp)) harr⟩
  obtain ⟨e, a', w', hq, harr⟩ := key n a w h0
  exact ⟨e, a', w', hq, .of_steps (.one step_loop) harr⟩

section
variable {B : Nat} {W : World} {P : Program} {H : Hint} {call : FuncId → List Value → Hp → Option (Value × Hp)}

theorem get_keep_or (l : List Nat) (e : Env) (t : Nat) : (e.keep l).get t = e.get t ∨ (e.keep l).get t = junk := by
  induction l with
  | nil => exact .inr rfl
  | cons x l ih =>
    simp only [Env.keep, List.map_cons, Env.get]
    by_cases hx : x = t
    · subst hx; simp
    · have : (x == t) = false := by simpa using hx
      rw [this, cond_false]
      exact ih
theorem FrameRel.mask {ρ : Places} {nt : Nat} {e : Env} {a : Act} (h : FrameRel B ρ nt e a) (f : FuncId) (c : Code) : FrameRel B ρ nt (maskE H f c e) a := by
  refine ⟨fun t => ?_, h.size, h.defers⟩
  unfold maskE
  split
  · split
    · rename_i l _
      rcases get_keep_or l e t with h1 | h1
      · rw [h1]; exact h.env t
      · rw [h1]; exact .junk _
    · exact h.env t
  · exact h.env t

theorem codeC_sound (hq : EqOK P H.eqt) (hc : CallOK P B W call) (hcs : CallStep call) (hm : P.follows .mixedOrders = true) (f : FuncId) {nt : Nat} (c : Code) :
    ∀ {R : Type} {r : R} {K : Ex → Env → Hp → Option R} {Q : Exit → Act → World → Prop} {ρ : Places} {e : Env} {h : Hp} {a : Act} {w : World}, codeC P H call f nt c R e h K = some r → Sim B W ρ h w → FrameRel B ρ nt e a →
      (∀ ex e' h' ρ' a' w', LeP ρ ρ' → Sim B W ρ' h' w' → FrameRel B ρ' nt e' a' → K ex e' h' = some r → Q (exitOf ex) a' w') → c.wp P Q a w := by
  induction c with
  | skip => intro R r K Q ρ e h a w hk s hf hQ; exact wp_skip (hQ .normal e h ρ a w (LeP.refl ρ) s hf hk)
  | label l => intro R r K Q ρ e h a w hk s hf hQ; exact wp_label (hQ .normal e h ρ a w (LeP.refl ρ) s hf hk)
  | exit i => intro R r K Q ρ e h a w hk s hf hQ; exact wp_exit (hQ (.exit i) e h ρ a w (LeP.refl ρ) s hf hk)
  | ret => intro R r K Q ρ e h a w hk s hf hQ; exact wp_ret (hQ .ret e h ρ a w (LeP.refl ρ) s hf hk)
  | region id ops draw =>
    intro R r K Q ρ e h a w hk s hf hQ
    unfold codeC at hk
    cases hd : dstsOk nt ops <;> rw [hd] at hk <;> simp only [cond_true, cond_false] at hk
    · cases hk
    cases draw <;> simp only [cond_true, cond_false] at hk
    · refine wp_region ?_
      have := opsC_sound hq hc hd (Q := Q) ops.toList 0 ρ e h a w rfl hk s hf (fun ρ' e' h' a' w' hl hs hf hk => hQ .normal e' h' ρ' a' w' hl hs hf hk)
      rw [List.range_eq_range']
      simpa using this
    · cases ho : okDraw ops <;> rw [ho] at hk <;> simp only [cond_true, cond_false] at hk
      · cases hk
      refine wp_region_any hm ?_
      exact drawC_sound hq hc hcs hd (okDraw_ok ho) hk s.drew hf (fun ρ' e' h' a' w' hl hs hf hk => hQ .normal e' h' ρ' a' w' hl hs hf hk)
  | seq x y ihx ihy =>
    intro R r K Q ρ e h a w hk s hf hQ
    unfold codeC at hk
    refine wp_seq (ihx hk s hf ?_)
    intro ex e' h' ρ' a' w' hl hs hf' hk'
    cases ex with
    | normal => exact ihy hk' hs (hf'.mask f y) (fun ex2 e2 h2 ρ2 a2 w2 hl2 => hQ ex2 e2 h2 ρ2 a2 w2 (hl.trans hl2))
    | exit i => exact hQ (.exit i) e' h' ρ' a' w' hl hs hf' hk'
    | ret => exact hQ .ret e' h' ρ' a' w' hl hs hf' hk'
  | cond x y z ihy ihz =>
    intro R r K Q ρ e h a w hk s hf hQ
    unfold codeC at hk
    split at hk
    · rename_i t
      split at hk
      · rename_i b hb
        have hrel := hf.env t
        rw [hb] at hrel
        have hev : a.eval (.tmp t) = .bool b := by
          show a.tmps.getD t undef = _
          generalize a.tmps.getD t undef = q at hrel
          cases hrel
          rfl
        have hsame : ∀ t2, Env.get ((t, .bool b) :: e) t2 = e.get t2 := by
          intro t2
          simp only [Env.get]
          by_cases h : t = t2
          · subst h; simp [hb]
          · have : (t == t2) = false := by simpa using h
            simp [this]
        split at hk
        · exact wp_cond_true hev (ihy hk s (hf.same hsame) hQ)
        · exact wp_cond_false hev (ihz hk s (hf.same hsame) hQ)
      · cases hk
    · split at hk
      · exact wp_cond_true rfl (ihy hk s hf hQ)
      · exact wp_cond_false rfl (ihz hk s hf hQ)
    · cases hk
  | block id b ih =>
    intro R r K Q ρ e h a w hk s hf hQ
    unfold codeC at hk
    refine wp_block (ih hk s hf ?_)
    intro ex e' h' ρ' a' w' hl hs hf' hk'
    cases ex with
    | normal => exact hQ .normal e' h' ρ' a' w' hl hs hf' hk'
    | exit i =>
      simp only [blockK] at hk'
      show (if i = id then Q .normal a' w' else Q (.exit i) a' w')
      by_cases hi : i = id
      · subst hi
        rw [if_pos rfl]
        exact hQ .normal e' h' ρ' a' w' hl hs hf' (by simpa using hk')
      · rw [if_neg hi]
        have : (i == id) = false := by simpa using hi
        rw [this] at hk'
        exact hQ (.exit i) e' h' ρ' a' w' hl hs hf' hk'
    | ret => exact hQ .ret e' h' ρ' a' w' hl hs hf' hk'
  | loop b ih =>
    intro R r K Q ρ e h a w hk s hf hQ
    unfold codeC at hk
    obtain ⟨q, hq1, hq2⟩ := Option.bind_eq_some_iff.1 hk
    obtain ⟨n, hn⟩ := lfp_some hq1
    refine wp_loop_n (fun n a w => ∃ ρ' e h, LeP ρ ρ' ∧ Sim B W ρ' h w ∧ FrameRel B ρ' nt e a ∧ loopN (fun e h => codeC P H call f nt b Out e h fun ex e h => some (ex, e, h)) (maskE H f b) n e h = some q) ?_ ?_ ⟨ρ, e, h, LeP.refl ρ, s, hf, hn⟩
    · rintro a w ⟨_, _, _, _, _, _, h0⟩
      cases h0
    · rintro n a w ⟨ρ', e', h', hl, hs, hf', hn'⟩
      rw [loopN] at hn'
      obtain ⟨q1, hb1, hb2⟩ := Option.bind_eq_some_iff.1 hn'
      refine ih hb1 hs (hf'.mask f b) ?_
      intro ex e2 h2 ρ2 a2 w2 hl2 hs2 hf2 hk2
      cases hk2
      cases ex with
      | normal => exact ⟨ρ2, e2, h2, hl.trans hl2, hs2, hf2, hb2⟩
      | exit i => cases hb2; exact hQ (.exit i) e2 h2 ρ2 a2 w2 (hl.trans hl2) hs2 hf2 hq2
      | ret => cases hb2; exact hQ .ret e2 h2 ρ2 a2 w2 (hl.trans hl2) hs2 hf2 hq2
  | rangeFunc => intro R r K Q ρ e h a w hk; cases hk
  | scope => intro R r K Q ρ e h a w hk; cases hk
  | goto => intro R r K Q ρ e h a w hk; cases hk
  | refuse => intro R r K Q ρ e h a w hk; cases hk

theorem resC_sound {ρ : Places} {h : Hp} {w : World} (s : Sim B W ρ h w) {e : Env} {tmps : Array Value} (he : EnvRel B ρ e tmps) (g : ResultVar → Sem Value) (hg1 : ∀ t, g (.tmp t) = pure (tmps.getD t undef))
    (hg2 : ∀ a t, g (.cell a t) = (do loadVar t (← asAddr (tmps.getD a undef)))) : ∀ (rs : List ResultVar) {R : Type} {r : R} {K : List Value → Option R}, resC P h e rs K = some r → ∃ vs vs', K vs = some r ∧ VRels B ρ vs vs' ∧ (rs.mapM g).run P w = .ok vs' w
  | [], R, r, K, hk => ⟨[], [], hk, .nil, rfl⟩
  | .tmp t :: rs, R, r, K, hk => by
    obtain ⟨vs, vs', h1, h2, h3⟩ := resC_sound s he g hg1 hg2 rs hk
    refine ⟨_, _, h1, .cons (he t) h2, ?_⟩
    rw [List.mapM_cons, hg1]
    simp only [Sem.run_bind, Sem.run_pure, Result.andThen_ok, h3]
  | .cell a t :: rs, R, r, K, hk => by
    rw [resC] at hk
    obtain ⟨p, hp, hk⟩ := asPtrC_some hk
    split at hk
    · rename_i ad
      have hrel := he a
      rw [hp] at hrel
      obtain ⟨ad', e1, har⟩ := rel_ptr hrel
      obtain ⟨u, u', k1, k2, k3⟩ := loadC_sound (P := P) s har hk
      obtain ⟨vs, vs', h1, h2, h3⟩ := resC_sound s he g hg1 hg2 rs k1
      refine ⟨_, _, h1, .cons k2 h2, ?_⟩
      rw [List.mapM_cons, hg2, e1]
      simp only [Sem.run_bind, asAddr, Sem.run_pure, Result.andThen_ok, k3, h3]
    · cases hk

theorem resK_sound {ρ : Places} {h h' : Hp} {w : World} (s : Sim B W ρ h w) {e : Env} {tmps : Array Value} (he : EnvRel B ρ e tmps) {fn : Func} {ex : Ex} {v : Value} (hk : resK P fn ex e h = some (v, h')) :
    (exitOf ex = .normal ∨ exitOf ex = .ret) ∧ h' = h ∧ ∃ v', (results fn tmps).run P w = .ok v' w ∧ VRel B ρ v v' := by
  have gen : (resC P h e fn.results.toList fun vs => match vs with | [v] => some (v, h) | vs => some (.tuple vs.toArray, h)) = some (v, h') → h' = h ∧ ∃ v', (results fn tmps).run P w = .ok v' w ∧ VRel B ρ v v' := by
    intro hr
    obtain ⟨vs, vs', h1, h2, h3⟩ := resC_sound (P := P) s he (fun | .tmp t => pure (tmps.getD t undef) | .cell a t => do loadVar t (← asAddr (tmps.getD a undef))) (fun _ => rfl) (fun _ _ => rfl) _ hr
    have hrun : (results fn tmps).run P w = .ok (if h : vs'.toArray.size = 1 then vs'.toArray[0] else .tuple vs'.toArray) w := by
      unfold results
      rw [Array.mapM_eq_mapM_toList]
      simp only [Sem.run_bind, Sem.run_map]
      exact (congrArg (fun q => Result.andThen (Result.andThen q (fun (a : List Value) w' => Result.ok a.toArray w')) (fun (a : Array Value) w' => Sem.run P (pure (if h : a.size = 1 then a[0] else Value.tuple a)) w')) h3).trans rfl
    split at h1
    · rename_i u
      cases h1
      cases h2 with
      | cons a b =>
        cases b
        exact ⟨rfl, _, hrun, a⟩
    · rename_i us hne
      cases h1
      refine ⟨rfl, _, hrun, ?_⟩
      have hl := h2.length
      have : ¬ vs'.toArray.size = 1 := by
        intro h1
        have h1' : vs'.length = 1 := by simpa using h1
        rw [h1'] at hl
        obtain ⟨x, hx⟩ := List.length_eq_one_iff.1 hl
        exact hne x hx
      rw [dif_neg this]
      exact .tuple (by simpa using h2)
  cases ex with
  | exit i => cases hk
  | normal => exact ⟨.inl rfl, gen hk⟩
  | ret => exact ⟨.inr rfl, gen hk⟩

theorem envFrom_get : ∀ (as : List Value) (k t : Nat), (envFrom as k).get t = if k ≤ t then (as[t - k]?).getD junk else junk
  | [], k, t => by simp [envFrom, Env.get]
  | v :: vs, k, t => by
    simp only [envFrom, Env.get]
    rw [envFrom_get vs (k + 1) t]
    by_cases h : k = t
    · subst h; simp
    · have h1 : (k == t) = false := by simpa using h
      rw [h1, cond_false]
      by_cases h2 : k + 1 ≤ t
      · rw [if_pos h2, if_pos (by omega)]
        have : t - k = (t - (k + 1)) + 1 := by omega
        rw [this, List.getElem?_cons_succ]
      · rw [if_neg h2]
        split
        · omega
        · rfl

theorem aN_sound (hq : EqOK P H.eqt) (hm : P.follows .mixedOrders = true) : ∀ (k : Nat), CallOK P B W (aN P H k)
  | 0 => fun _ _ _ _ _ hk => by cases hk
  | k + 1 => fun g as h v h' hk => by
    have hk' : funC P H (aN P H k) g as h = some (v, h') := hk
    unfold funC at hk'
    split at hk'
    · rename_i fn hfn
      split at hk'
      · rename_i c hc
        cases hn : fn.name == "runtime.NumGoroutine" <;> rw [hn] at hk' <;> simp only [cond_true, cond_false] at hk'
        · refine ⟨⟨fn, c, hfn, hc, hn⟩, fun ρ w as' s hr => ?_⟩
          refine calls_of_wp hfn hc ?_
          have hlen := hr.length
          have hframe : FrameRel B ρ (max as.length fn.ntmps) (envFrom as 0) { tmps := as' ++ Array.replicate (fn.ntmps - as'.size) undef, defers := [] } := by
            refine ⟨fun t => ?_, ?_, rfl⟩
            · rw [envFrom_get]
              simp only [Nat.zero_le, if_true, Nat.sub_zero]
              cases ht : as[t]? with
              | none => exact .junk _
              | some u =>
                obtain ⟨u', h1, h2⟩ := hr.get ht
                have h1' : as'[t]? = some u' := by simpa using h1
                have hlt : t < as'.size := (Array.getElem?_eq_some_iff.1 h1').1
                simp only [Option.getD_some, Array.getD_eq_getD_getElem?]
                rw [Array.getElem?_append_left hlt, h1']
                exact h2
            · have : as.length = as'.size := by simpa using hlen
              simp
              omega
          refine codeC_sound hq (aN_sound hq hm k) (aN_step P H k) hm g c hk' s hframe ?_
          intro ex e' h2 ρ' a' w' hl hs hf hk2
          obtain ⟨h1, h3, v', h4, h5⟩ := resK_sound (P := P) hs hf.env hk2
          subst h3
          have post : a'.defers = [] ∧ ∃ v, (results fn a'.tmps).run P w' = .ok v w' ∧ (∃ v'_1, Ending.returned v = Ending.returned v'_1 ∧ Post B W ρ _ _ v'_1 w') := ⟨hf.defers, v', h4, v', rfl, ρ', hl, hs, h5⟩
          rcases h1 with h1 | h1 <;> rw [h1] <;> exact post
        · cases hk'
      · cases hk'
    · cases hk'
theorem arun_sound (hq : EqOK P H.eqt) (hm : P.follows .mixedOrders = true) : CallOK P B W (arun P H) := fun g as h v h' hk => by
  obtain ⟨k, hk'⟩ := arun_some P H hk
  exact aN_sound hq hm k g as h v h' hk'

/-! ### The beginning. -/
def flatB (B : Nat) : Value → Bool
  | .bool _ | .int .. | .string _ | .pointer none | .nilFunc | .nilIface => true
  | .pointer (some a) => decide (a.block < B)
  | .slice none n c => n == 0 && c == 0
  | .slice (some a) _ _ => decide (a.block < B)
  | _ => false
theorem rel_flat {ρ : Places} {v : Value} (h : flatB B v = true) : VRel B ρ v v := by
  cases v with
  | bool b => exact .bool b
  | int k n => exact .int k n
  | string s => exact .string s
  | pointer a => cases a with
    | none => exact .ptrNil
    | some a => exact .ptrOld (of_decide_eq_true h)
  | slice a n c => cases a with
    | none =>
      simp [flatB] at h
      obtain ⟨rfl, rfl⟩ := h
      exact .slNil
    | some a => exact .slOld (of_decide_eq_true h)
  | nilFunc => exact .nilFunc
  | nilIface => exact .nilIface
  | _ => cases h
/-- The heap of a call that begins in a world. -/
def start (w : World) : Hp where
  base := w.heap.size
  old := fun a => bif decide (a.block < w.heap.size) then (match w.cell? a with | some v => bif flatB w.heap.size v then some v else none | none => none) else none
  new := fun _ => none
  maps := fun _ => none
  next := w.heap.size
  low := w.heap.size
theorem start_sim (w : World) : Sim w.heap.size w (fun _ => none) (start w) w where
  below := Below.refl _ _
  low := Nat.le_refl _
  base := rfl
  first := Nat.le_refl _
  old := fun a v hv => by
    simp only [start] at hv
    cases h1 : decide (a.block < w.heap.size) <;> rw [h1] at hv
    · cases hv
    · simp only [cond_true] at hv
      split at hv
      · rename_i u hu
        cases h2 : flatB w.heap.size u <;> rw [h2] at hv
        · cases hv
        · cases hv
          exact ⟨of_decide_eq_true h1, hu, rel_flat h2⟩
      · cases hv
  dom := fun _ _ h => by cases h
  new := fun _ _ h => by cases h
  maps := fun _ _ h => by cases h
  apart := fun _ _ _ _ _ _ h => by cases h
  mapsApart := fun _ _ _ _ _ _ h => by cases h
theorem start_cell {w : World} {a : Addr} {v : Value} (hc : w.cell? a = some v) (hf : flatB w.heap.size v = true) : (start w).cell a = some v := by
  have hlt : a.block < w.heap.size := by
    unfold World.cell? at hc
    rcases Nat.lt_or_ge a.block w.heap.size with h | h
    · exact h
    · rw [Array.getElem?_eq_none h] at hc; cases hc
  unfold Hp.cell
  simp only [start, decide_eq_true hlt, cond_true, hc, hf]

/-- A CALL THAT THE EVALUATOR ENDS WITH A BOOL ENDS SO IN EVERY WORLD. -/
theorem run_law (hq : EqOK P H.eqt) (hm : P.follows .mixedOrders = true) {f : FuncId} {args : Array Value} {w : World} (ha : ∀ v ∈ args.toList, flatB w.heap.size v = true) {b : Bool} {h' : Hp} (hr : arun P H f args.toList (start w) = some (.bool b, h')) :
    Calls P f args w fun e w' => e = .returned (.bool b) ∧ Below w.heap.size w w' := by
  obtain ⟨_, hc⟩ := arun_sound (B := w.heap.size) (W := w) hq hm f args.toList (start w) (.bool b) h' hr
  have hargs : VRels w.heap.size (fun _ => none) args.toList args.toList := by
    generalize args.toList = l at ha
    induction l with
    | nil => exact .nil
    | cons x l ih => exact .cons (rel_flat (ha x (by simp))) (ih fun v hv => ha v (by simp [hv]))
  refine (hc _ w args (start_sim w) hargs).mono ?_
  rintro e w' ⟨v', rfl, ρ', _, hs, hv⟩
  cases hv
  exact ⟨rfl, hs.below⟩
end
end Go.Proofs.Ytcdeeppiljcddaa.AM
