/- AM, the tenth part: operations on numbers, strings, bools. Conditions: none. -/
import Derived.Test.YtcdeeppiljcddaaAm9
import Derived.Laws.Strings
namespace Go.Proofs.Ytcdeeppiljcddaa.AM
open Go Go.RowKit
set_option linter.unusedSectionVars false
set_option linter.unusedSimpArgs false
set_option linter.unusedVariables false

section
variable {B : Nat} {W : World} {ρ : Places} {h h' : Hp} {w : World} {P : Program} {R : Type} {r : R}

theorem i64_max : IntKind.i64.max = 9223372036854775807 := by decide

theorem intC_sound {op : BinOp} {k k' : IntKind} {a b : Int} {K : Value → Option R} (t : TypeId) (hk : intC op k k' a b K = some r) (w : World) :
    ∃ v, K v = some r ∧ VRel B ρ v v ∧ (binOp op t (.int k a) (.int k' b)).run P w = .ok v w := by
  cases op <;> simp only [intC] at hk
  case shl =>
    obtain ⟨hb, hk⟩ := needC_some hk
    have hb' : ¬ b < 0 := by have := of_decide_eq_true hb; omega
    exact ⟨_, hk, .int _ _, by simp [binOp, Op.shift, hb']⟩
  case shr =>
    obtain ⟨hb, hk⟩ := needC_some hk
    have hb' : ¬ b < 0 := by have := of_decide_eq_true hb; omega
    exact ⟨_, hk, .int _ _, by simp [binOp, Op.shift, hb']⟩
  case quo =>
    obtain ⟨he, hk1⟩ := needC_some hk
    obtain ⟨hb, hk2⟩ := needC_some hk1
    have he' := of_decide_eq_true he
    have hb' : ¬ b = 0 := by simpa using hb
    clear hk hk1 he
    subst he'
    exact ⟨_, hk2, .int _ _, by simp [binOp, Op.intDiv, hb']⟩
  case rem =>
    obtain ⟨he, hk1⟩ := needC_some hk
    obtain ⟨hb, hk2⟩ := needC_some hk1
    have he' := of_decide_eq_true he
    have hb' : ¬ b = 0 := by simpa using hb
    clear hk hk1 he
    subst he'
    exact ⟨_, hk2, .int _ _, by simp [binOp, Op.intDiv, hb']⟩
  case add => obtain ⟨he, hk1⟩ := needC_some hk; clear hk; have he' := of_decide_eq_true he; clear he; subst he'; exact ⟨_, hk1, .int _ _, by simp [binOp, Op.intArith]⟩
  case sub => obtain ⟨he, hk1⟩ := needC_some hk; clear hk; have he' := of_decide_eq_true he; clear he; subst he'; exact ⟨_, hk1, .int _ _, by simp [binOp, Op.intArith]⟩
  case mul => obtain ⟨he, hk1⟩ := needC_some hk; clear hk; have he' := of_decide_eq_true he; clear he; subst he'; exact ⟨_, hk1, .int _ _, by simp [binOp, Op.intArith]⟩
  case and => obtain ⟨he, hk1⟩ := needC_some hk; clear hk; have he' := of_decide_eq_true he; clear he; subst he'; exact ⟨_, hk1, .int _ _, by simp [binOp, Op.intBits, bitsI]⟩
  case or => obtain ⟨he, hk1⟩ := needC_some hk; clear hk; have he' := of_decide_eq_true he; clear he; subst he'; exact ⟨_, hk1, .int _ _, by simp [binOp, Op.intBits, bitsI]⟩
  case xor => obtain ⟨he, hk1⟩ := needC_some hk; clear hk; have he' := of_decide_eq_true he; clear he; subst he'; exact ⟨_, hk1, .int _ _, by simp [binOp, Op.intBits, bitsI]⟩
  case andNot => obtain ⟨he, hk1⟩ := needC_some hk; clear hk; have he' := of_decide_eq_true he; clear he; subst he'; exact ⟨_, hk1, .int _ _, by simp [binOp, Op.intBits, bitsI]⟩
  case eql => obtain ⟨he, hk1⟩ := needC_some hk; clear hk; have he' := of_decide_eq_true he; clear he; subst he'; exact ⟨_, hk1, .bool _, by simp [binOp, Op.intCmp]; rfl⟩
  case neq => obtain ⟨he, hk1⟩ := needC_some hk; clear hk; have he' := of_decide_eq_true he; clear he; subst he'; exact ⟨_, hk1, .bool _, by simp [binOp, Op.intCmp]; rfl⟩
  case lss => obtain ⟨he, hk1⟩ := needC_some hk; clear hk; have he' := of_decide_eq_true he; clear he; subst he'; exact ⟨_, hk1, .bool _, by simp [binOp, Op.intCmp]⟩
  case leq => obtain ⟨he, hk1⟩ := needC_some hk; clear hk; have he' := of_decide_eq_true he; clear he; subst he'; exact ⟨_, hk1, .bool _, by simp [binOp, Op.intCmp]⟩
  case gtr => obtain ⟨he, hk1⟩ := needC_some hk; clear hk; have he' := of_decide_eq_true he; clear he; subst he'; exact ⟨_, hk1, .bool _, by simp [binOp, Op.intCmp]⟩
  case geq => obtain ⟨he, hk1⟩ := needC_some hk; clear hk; have he' := of_decide_eq_true he; clear he; subst he'; exact ⟨_, hk1, .bool _, by simp [binOp, Op.intCmp]⟩

theorem str_eq (a b : ByteArray) : (a.toList == b.toList) = decide (a = b) := by
  rw [Bool.eq_iff_iff]
  simp only [beq_iff_eq, decide_eq_true_eq]
  constructor
  · intro h
    rw [ByteArray.toList_eq, ByteArray.toList_eq] at h
    cases a; cases b
    congr 1
    exact Array.ext' h
  · intro h; rw [h]
theorem strC_sound {op : BinOp} {a b : ByteArray} {K : Value → Option R} (t : TypeId) (hk : strC op a b K = some r) (w : World) :
    ∃ v, K v = some r ∧ VRel B ρ v v ∧ (binOp op t (.string a) (.string b)).run P w = .ok v w := by
  cases op <;> simp only [strC] at hk <;> (try cases hk)
  case add =>
    obtain ⟨hb, hk⟩ := needC_some hk
    have hb' := of_decide_eq_true hb
    have : ¬ ((9223372036854775807 : Int) < (a.size : Int) + (b.size : Int)) := by omega
    exact ⟨_, hk, .string _, by simp [binOp, Op.stringOp, i64_max, this]⟩
  all_goals exact ⟨_, hk, .bool _, by simp [binOp, Op.stringOp, str_eq]⟩

theorem eqlC_some {op : BinOp} {b : Bool} {K : Value → Option R} (hk : eqlC op b K = some r) : (op = .eql ∧ K (.bool b) = some r) ∨ (op = .neq ∧ K (.bool (!b)) = some r) := by
  cases op <;> simp only [eqlC] at hk <;> first | (cases hk; done) | exact .inl ⟨rfl, hk⟩ | exact .inr ⟨rfl, hk⟩

/-- How '==' of structs is told to the evaluator is right. -/
def EqOK (P : Program) (eqt : TypeId → Option (List Value)) : Prop := ∀ t zs, eqt t = some zs → P.eqGuardType P.depth t = false ∧
  ∀ (xs ys : Array Value) (w : World) (b : Bool), shapeB zs xs.toList = true → shapeB zs ys.toList = true → eqCells xs.toList ys.toList = some b → (Op.equal t (.agg xs) (.agg ys)).run P w = .ok b w

theorem eqlC_sound {op : BinOp} {b : Bool} {K : Value → Option R} {t : TypeId} {x y : Value} (hk : eqlC op b K = some r) (w : World)
    (hint : ∀ k n, x ≠ .int k n) (hs : ∀ s, x ≠ .string s) (hf : ∀ k n, x ≠ .float k n) (hc : ∀ k n m, x ≠ .complex k n m)
    (he : (Op.equal t x y).run P w = .ok b w) : ∃ v, K v = some r ∧ VRel B ρ v v ∧ (binOp op t x y).run P w = .ok v w := by
  rcases eqlC_some hk with ⟨rfl, hk⟩ | ⟨rfl, hk⟩
  · refine ⟨_, hk, .bool _, ?_⟩
    have : binOp .eql t x y = (do pure (.bool (← Op.equal t x y)) : Sem Value) := by
      cases x <;> cases y <;> first | rfl | exact absurd rfl (hint _ _) | exact absurd rfl (hs _) | exact absurd rfl (hf _ _) | exact absurd rfl (hc _ _ _)
    rw [this]
    simp [he]
  · refine ⟨_, hk, .bool _, ?_⟩
    have : binOp .neq t x y = (do pure (.bool (!(← Op.equal t x y))) : Sem Value) := by
      cases x <;> cases y <;> first | rfl | exact absurd rfl (hint _ _) | exact absurd rfl (hs _) | exact absurd rfl (hf _ _) | exact absurd rfl (hc _ _ _)
    rw [this]
    simp [he]

theorem rel_slice {a : Option Addr} {n c : Nat} {v : Value} (hr : VRel B ρ (.slice a n c) v) : ∃ a' c', v = .slice a' n c' ∧ a'.isNone = a.isNone := by
  cases hr with
  | slNil => exact ⟨_, _, rfl, rfl⟩
  | slOld h => exact ⟨_, _, rfl, rfl⟩
  | slNew _ _ _ => exact ⟨_, _, rfl, rfl⟩
  | slEmpty _ => exact ⟨_, _, rfl, rfl⟩
theorem rel_pointer {a : Option Addr} {v : Value} (hr : VRel B ρ (.pointer a) v) : ∃ a', v = .pointer a' ∧ a'.isNone = a.isNone := by
  cases hr with
  | ptrNil => exact ⟨_, rfl, rfl⟩
  | ptrOld h => exact ⟨_, rfl, rfl⟩
  | ptrNew _ => exact ⟨_, rfl, rfl⟩
/-- Cells of the kinds of numbers, bools, strings are the same on both sides. -/
theorem shape_same : ∀ {zs xs ys : List Value}, shapeB zs xs = true → VRels B ρ xs ys → ys = xs
  | [], [], _, _, .nil => rfl
  | [], _ :: _, _, h, _ => by cases h
  | z :: zs, [], _, h, _ => by cases z <;> cases h
  | z :: zs, x :: xs, _, h, .cons hx hs => by
    cases z <;> cases x <;> simp only [shapeB, Bool.and_eq_true, Bool.false_eq_true] at h
    · cases hx
      rw [shape_same h hs]
    · cases hx
      rw [shape_same h.2 hs]
    · cases hx
      rw [shape_same h hs]

theorem run_eqGuard {op : BinOp} {t : TypeId} {x y : Operand} {a b : Value} (h1 : a ≠ .nilIface) (h2 : ∀ cs, a = .agg cs → P.eqGuardType P.depth t = false) (w : World) : (eqGuard op t x y a b).run P w = .ok () w := by
  unfold eqGuard
  cases op <;> first
    | rfl
    | (cases a <;> first
        | rfl
        | exact absurd rfl h1
        | (rename_i cs
           cases b <;> first
             | rfl
             | (simp [h2 cs rfl])))

theorem equalIn_bool (d : Nat) {t : TypeId} (hu : P.underlying t = some .bool) (a b : Bool) (w : World) : (Op.equalIn (d + 1) t (.bool a) (.bool b)).run P w = .ok (a == b) w := by
  simp only [Op.equalIn, Sem.run_bind, run_underlying hu, Result.andThen_ok, Sem.run_pure]
theorem equalIn_slice (d : Nat) {t e : TypeId} (hu : P.underlying t = some (.slice e)) (a b : Option Addr) (n c m k : Nat) (w : World) (h : a = none ∨ b = none) : (Op.equalIn (d + 1) t (.slice a n c) (.slice b m k)).run P w = .ok (a.isNone && b.isNone) w := by
  cases a <;> cases b <;> first
    | (simp only [Op.equalIn, Sem.run_bind, run_underlying hu, Result.andThen_ok, Sem.run_pure]; rfl)
    | (simp at h)
theorem equalIn_pointer (d : Nat) {t e : TypeId} (hu : P.underlying t = some (.pointer e)) (a b : Option Addr) (w : World) (h : a = none ∨ b = none) : (Op.equalIn (d + 1) t (.pointer a) (.pointer b)).run P w = .ok (a.isNone && b.isNone) w := by
  cases a <;> cases b <;> first
    | (simp only [Op.equalIn, Sem.run_bind, run_underlying hu, Result.andThen_ok, Sem.run_pure]; rfl)
    | (simp at h)
theorem equal_bool {t : TypeId} (hu : P.underlying t = some .bool) (a b : Bool) (w : World) : (Op.equal t (.bool a) (.bool b)).run P w = .ok (a == b) w := equalIn_bool 9999 hu a b w
theorem equal_slice {t e : TypeId} (hu : P.underlying t = some (.slice e)) (a b : Option Addr) (n c m k : Nat) (w : World) (h : a = none ∨ b = none) : (Op.equal t (.slice a n c) (.slice b m k)).run P w = .ok (a.isNone && b.isNone) w := equalIn_slice 9999 hu a b n c m k w h
theorem equal_pointer {t e : TypeId} (hu : P.underlying t = some (.pointer e)) (a b : Option Addr) (w : World) (h : a = none ∨ b = none) : (Op.equal t (.pointer a) (.pointer b)).run P w = .ok (a.isNone && b.isNone) w := equalIn_pointer 9999 hu a b w h

theorem binC_sound {op : BinOp} {t : TypeId} {eqt : TypeId → Option (List Value)} (hq : EqOK P eqt) {x y x' y' : Value} {X Y : Operand} (hx : VRel B ρ x x') (hy : VRel B ρ y y') {K : Value → Option R}
    (hk : binC op (P.underlying t) (eqt t) x y K = some r) (w : World) :
    ∃ v, K v = some r ∧ VRel B ρ v v ∧ (do eqGuard op t X Y x' y'; binOp op t x' y' : Sem Value).run P w = .ok v w := by
  have fin : ∀ {x' y' : Value}, x' ≠ .nilIface → (∀ cs, x' = .agg cs → P.eqGuardType P.depth t = false) → (∃ v, K v = some r ∧ VRel B ρ v v ∧ (binOp op t x' y').run P w = .ok v w) →
      ∃ v, K v = some r ∧ VRel B ρ v v ∧ (do eqGuard op t X Y x' y'; binOp op t x' y' : Sem Value).run P w = .ok v w := by
    intro x' y' h1 h2 ⟨v, a, b, c⟩
    exact ⟨v, a, b, by rw [Sem.run_bind, run_eqGuard h1 h2]; exact c⟩
  unfold binC at hk
  split at hk
  · split at hk
    · cases hx; cases hy
      exact fin (by simp) (by simp) (intC_sound t hk w)
    · cases hk
  · split at hk
    · cases hx; cases hy
      exact fin (by simp) (by simp) (strC_sound t hk w)
    · cases hk
  · split at hk
    · cases hx; cases hy
      split at hk
      · rename_i hu
        refine fin (by simp) (by simp) (eqlC_sound hk w (by simp) (by simp) (by simp) (by simp) ?_)
        exact equal_bool hu _ _ w
      · cases hk
    · cases hk
  · split at hk
    · split at hk
      · rename_i a _ _ _ b _ _ _ e hu
        obtain ⟨a', c', rfl, ha⟩ := rel_slice hx
        obtain ⟨b', d', rfl, hb⟩ := rel_slice hy
        unfold nilC at hk
        cases b with
        | none =>
          have hb' : b' = none := by cases b' <;> simp at hb ⊢
          subst hb'
          refine fin (by simp) (by simp) (eqlC_sound hk w (by simp) (by simp) (by simp) (by simp) ?_)
          refine (equal_slice (P := P) hu a' none _ _ _ _ w (.inr rfl)).trans ?_
          rw [← ha]
          simp
        | some bb =>
          obtain ⟨b2, rfl⟩ : ∃ z, b' = some z := by cases b' <;> simp at hb ⊢
          cases a with
          | some aa => cases hk
          | none =>
            have ha' : a' = none := by cases a' <;> simp at ha ⊢
            subst ha'
            refine fin (by simp) (by simp) (eqlC_sound hk w (by simp) (by simp) (by simp) (by simp) ?_)
            exact equal_slice (P := P) hu none (some b2) _ _ _ _ w (.inl rfl)
      · cases hk
    · cases hk
  · split at hk
    · split at hk
      · rename_i a _ b _ e hu
        obtain ⟨a', rfl, ha⟩ := rel_pointer hx
        obtain ⟨b', rfl, hb⟩ := rel_pointer hy
        unfold nilC at hk
        cases b with
        | none =>
          have hb' : b' = none := by cases b' <;> simp at hb ⊢
          subst hb'
          refine fin (by simp) (by simp) (eqlC_sound hk w (by simp) (by simp) (by simp) (by simp) ?_)
          refine (equal_pointer (P := P) hu a' none w (.inr rfl)).trans ?_
          rw [← ha]
          simp
        | some bb =>
          obtain ⟨b2, rfl⟩ : ∃ z, b' = some z := by cases b' <;> simp at hb ⊢
          cases a with
          | some aa => cases hk
          | none =>
            have ha' : a' = none := by cases a' <;> simp at ha ⊢
            subst ha'
            refine fin (by simp) (by simp) (eqlC_sound hk w (by simp) (by simp) (by simp) (by simp) ?_)
            exact equal_pointer (P := P) hu none (some b2) w (.inl rfl)
      · cases hk
    · cases hk
  · split at hk
    · split at hk
      · rename_i zs hz
        obtain ⟨hsh, hk⟩ := needC_some hk
        simp only [Bool.and_eq_true] at hsh
        obtain ⟨hg, he⟩ := hq t zs hz
        split at hk
        · rename_i b hb
          cases hx with
          | agg hx =>
            cases hy with
            | agg hy =>
              have e1 := shape_same hsh.1 hx
              have e2 := shape_same hsh.2 hy
              refine fin (by simp) (fun _ _ => hg) (eqlC_sound hk w (by simp) (by simp) (by simp) (by simp) ?_)
              exact he _ _ w b (by rw [e1]; exact hsh.1) (by rw [e2]; exact hsh.2) (by rw [e1, e2]; exact hb)
        · cases hk
      · cases hk
    · cases hk
  · cases hk

theorem unC_sound {op : UnOp} {x x' : Value} (hx : VRel B ρ x x') {K : Value → Option R} (hk : unC op x K = some r) (w : World) :
    ∃ v, K v = some r ∧ VRel B ρ v v ∧ (Op.unary op x').run P w = .ok v w := by
  unfold unC at hk
  split at hk
  · split at hk
    · cases hx
      exact ⟨_, hk, .int _ _, by simp [Op.unary, Op.intArith]⟩
    · cases hk
  · split at hk
    · cases hx
      exact ⟨_, hk, .bool _, by simp [Op.unary]⟩
    · cases hk
  · split at hk
    · cases hx
      rename_i k n
      refine ⟨_, hk, .int _ _, ?_⟩
      cases hs : k.signed <;> simp [Op.unary, Op.intBits, bitsI, hs]
    · cases hk
  · cases hk
end
end Go.Proofs.Ytcdeeppiljcddaa.AM
