/- Merged: Zb1 Zb2 Zb3. Conditions: none. -/
import Derived.Test.YtemdhiejbncafaaZa
set_option linter.all false
section
namespace Go.Proofs.Ytemdhiejbncafaa.VM
set_option linter.unusedSectionVars false
open Go AM
set_option linter.unusedVariables false
set_option linter.unusedSimpArgs false
inductive CutE where
  | err (at_ : Nat)
  | ok (line : Bool) (out : List T)
/-- How many bytes one step takes. -/
def stepN (l : List UInt8) : Nat :=
  match l with
  | [] => 0
  | b :: t => bif decide (b = 10) then 1 else bif decide (b = 32) || decide (b = 9) then 1 else bif decide (b = 35) then skipC (b :: t) else bif isL b || isD b then runL (b :: t) else 1
/-- What one step makes of the state. -/
def stepO (l : List UInt8) (line : Bool) (out : List T) : Option (Bool × List T) :=
  match l with
  | [] => some (line, out)
  | b :: t => bif decide (b = 10) then some (true, out) else bif decide (b = 32) || decide (b = 9) then some (line, out) else bif decide (b = 35) then some (line, out)
    else match tok ((b :: t).take (stepN (b :: t))) with
      | none => none
      | some (k, v) => some (false, (bif line && !out.isEmpty then out ++ [lineT] else out) ++ [tokT ⟨⟨(b :: t).take (stepN (b :: t))⟩⟩ k v])
def cutE : Nat → List UInt8 → Nat → Bool → List T → CutE
  | 0, _, pos, _, _ => .err pos
  | f + 1, l, pos, line, out => match l with
    | [] => .ok line out
    | b :: t => match stepO (b :: t) line out with
      | none => .err pos
      | some (line', out') => cutE f ((b :: t).drop (stepN (b :: t))) (pos + stepN (b :: t)) line' out'
def CutE.toR : CutE → CutR
  | .err p => .err p
  | .ok _ o => .ok o
theorem cutE_toR : ∀ (f : Nat) (l : List UInt8) (pos : Nat) (line : Bool) (out : List T), cutS f l pos line out = (cutE f l pos line out).toR
  | 0, l, pos, line, out => rfl
  | f + 1, [], pos, line, out => rfl
  | f + 1, b :: t, pos, line, out => by
    have ih := cutE_toR f
    unfold cutS cutE stepO stepN
    dsimp only
    cases h10 : decide (b = 10) with
    | true => simp only [cond_true]; rw [ih]; rfl
    | false =>
      cases hb : decide (b = 32) || decide (b = 9) with
      | true => simp only [cond_true, cond_false]; rw [ih]; rfl
      | false =>
        cases h35 : decide (b = 35) with
        | true => simp only [cond_true, cond_false]; rw [ih]
        | false =>
          simp only [cond_false]
          cases tok ((b :: t).take (bif isL b || isD b then runL (b :: t) else 1)) with
          | none => rfl
          | some kv => obtain ⟨k, v⟩ := kv; simp only []; rw [ih]
theorem stepN_pos (b : UInt8) (t : List UInt8) : 0 < stepN (b :: t) := by
  unfold stepN
  dsimp only
  cases h10 : decide (b = 10) with
  | true => simp
  | false =>
    cases hb : decide (b = 32) || decide (b = 9) with
    | true => simp
    | false =>
      cases h35 : decide (b = 35) with
      | true => simp only [cond_true, cond_false]; unfold skipC; rw [h10]; simp
      | false =>
        cases hl : isL b || isD b with
        | true => simp only [cond_true, cond_false]; exact runL_pos hl
        | false => simp
theorem stepN_le (l : List UInt8) : stepN l ≤ l.length := by
  cases l with
  | nil => exact Nat.le_refl _
  | cons b t =>
    unfold stepN
    dsimp only
    have h1 := skipC_le (b :: t)
    have h2 := runL_le (b :: t)
    cases decide (b = 10) <;> cases decide (b = 32) || decide (b = 9) <;> cases decide (b = 35) <;> cases isL b || isD b <;> simp only [cond_true, cond_false] <;> first | omega | (simp only [List.length_cons]; omega)
theorem cutE_fuel : ∀ (f g : Nat) (l : List UInt8) (pos : Nat) (line : Bool) (out : List T), l.length < f → l.length < g → cutE f l pos line out = cutE g l pos line out
  | 0, g, l, pos, line, out, h, _ => by omega
  | f + 1, 0, l, pos, line, out, _, h => by omega
  | f + 1, g + 1, [], pos, line, out, _, _ => rfl
  | f + 1, g + 1, b :: t, pos, line, out, hf, hg => by
    have hp := stepN_pos b t
    have hl : ((b :: t).drop (stepN (b :: t))).length < (b :: t).length := by rw [List.length_drop, List.length_cons]; omega
    unfold cutE
    dsimp only
    cases stepO (b :: t) line out with
    | none => rfl
    | some r => obtain ⟨l', o'⟩ := r; dsimp only; exact cutE_fuel f g _ _ _ _ (by omega) (by omega)
/-- One step, of enough fuel. -/
theorem cutE_step (f : Nat) (b : UInt8) (t : List UInt8) (pos : Nat) (line : Bool) (out : List T) (hf : (b :: t).length < f) :
    cutE f (b :: t) pos line out = match stepO (b :: t) line out with
      | none => .err pos
      | some (line', out') => cutE f ((b :: t).drop (stepN (b :: t))) (pos + stepN (b :: t)) line' out' := by
  obtain ⟨f, rfl⟩ : ∃ g, f = g + 1 := ⟨f - 1, by omega⟩
  have hp := stepN_pos b t
  have hl : ((b :: t).drop (stepN (b :: t))).length < (b :: t).length := by rw [List.length_drop, List.length_cons]; omega
  rw [cutE]
  cases stepO (b :: t) line out with
  | none => rfl
  | some r => obtain ⟨l', o'⟩ := r; dsimp only; exact cutE_fuel f (f + 1) _ _ _ _ (by omega) (by omega)
theorem cutE_nil (f : Nat) (pos : Nat) (line : Bool) (out : List T) (hf : 0 < f) : cutE f [] pos line out = .ok line out := by
  obtain ⟨f, rfl⟩ : ∃ g, f = g + 1 := ⟨f - 1, by omega⟩
  rfl
theorem skipC_app : ∀ (l m : List UInt8), skipC (l ++ 10 :: m) = skipC l
  | [], m => by unfold skipC; rfl
  | b :: l, m => by
    have ih := skipC_app l m
    rw [List.cons_append]
    unfold skipC
    rw [ih]
theorem runL_app : ∀ (l m : List UInt8), runL (l ++ 10 :: m) = runL l
  | [], m => by unfold runL; rfl
  | b :: l, m => by
    have ih := runL_app l m
    rw [List.cons_append]
    unfold runL
    rw [ih]
theorem skipC_take : ∀ (l : List UInt8) (k : Nat), skipC l ≤ k → skipC (l.take k) = skipC l
  | [], k, h => by simp [skipC]
  | b :: l, 0, h => by
    unfold skipC at h
    cases hb : decide (b = 10) <;> rw [hb] at h <;> simp at h
    unfold skipC; rw [hb]; rfl
  | b :: l, k + 1, h => by
    rw [List.take_succ_cons]
    unfold skipC at h ⊢
    cases hb : decide (b = 10) with
    | true => rfl
    | false =>
      rw [hb] at h
      simp only [cond_false] at h ⊢
      rw [skipC_take l k (by omega)]
theorem runL_take : ∀ (l : List UInt8) (k : Nat), runL l ≤ k → runL (l.take k) = runL l
  | [], k, h => by simp [runL]
  | b :: l, 0, h => by
    rw [List.take_zero]
    have : runL (b :: l) = 0 := by omega
    rw [this]; rfl
  | b :: l, k + 1, h => by
    rw [List.take_succ_cons, runL_cons, runL_cons]
    rw [runL_cons] at h
    cases hb : isL b || isD b with
    | false => rfl
    | true =>
      rw [hb] at h
      simp only [cond_true] at h ⊢
      rw [runL_take l k (by omega)]
theorem stepN_app (b : UInt8) (t m : List UInt8) : stepN (b :: (t ++ 10 :: m)) = stepN (b :: t) := by
  have h1 := skipC_app (b :: t) m
  have h2 := runL_app (b :: t) m
  rw [List.cons_append] at h1 h2
  unfold stepN
  dsimp only
  rw [h1, h2]
theorem stepO_app (b : UInt8) (t m : List UInt8) (line : Bool) (out : List T) : stepO (b :: (t ++ 10 :: m)) line out = stepO (b :: t) line out := by
  have h := stepN_le (b :: t)
  have ht : (b :: (t ++ 10 :: m)).take (stepN (b :: t)) = (b :: t).take (stepN (b :: t)) := by
    rw [← List.cons_append, List.take_append_of_le_length h]
  unfold stepO
  dsimp only
  rw [stepN_app, ht]
theorem stepN_take (b : UInt8) (t : List UInt8) (k : Nat) (h : stepN (b :: t) ≤ k + 1) : stepN (b :: t.take k) = stepN (b :: t) := by
  have h1 := skipC_take (b :: t) (k + 1)
  have h2 := runL_take (b :: t) (k + 1)
  rw [List.take_succ_cons] at h1 h2
  unfold stepN at h ⊢
  dsimp only at h ⊢
  cases h10 : decide (b = 10) with
  | true => rfl
  | false =>
    cases hb : decide (b = 32) || decide (b = 9) with
    | true => rfl
    | false =>
      cases h35 : decide (b = 35) with
      | true =>
        rw [h10, hb, h35] at h
        simp only [cond_true, cond_false] at h ⊢
        exact h1 h
      | false =>
        cases hl : isL b || isD b with
        | true =>
          rw [h10, hb, h35, hl] at h
          simp only [cond_true, cond_false] at h ⊢
          exact h2 h
        | false => rfl
theorem stepO_take (b : UInt8) (t : List UInt8) (k : Nat) (line : Bool) (out : List T) (h : stepN (b :: t) ≤ k + 1) : stepO (b :: t.take k) line out = stepO (b :: t) line out := by
  have ht : (b :: t.take k).take (stepN (b :: t)) = (b :: t).take (stepN (b :: t)) := by
    rw [← List.take_succ_cons, List.take_take, Nat.min_eq_left h]
  unfold stepO
  dsimp only
  rw [stepN_take b t k h, ht]
/-- A line behind another text. -/
theorem cutE_app : ∀ (n : Nat) (l m : List UInt8) (f pos : Nat) (line : Bool) (out : List T), l.length = n → (l ++ 10 :: m).length < f →
    cutE f (l ++ 10 :: m) pos line out = match cutE f l pos line out with
      | .err p => .err p
      | .ok _ out' => cutE f m (pos + l.length + 1) true out' := by
  intro n
  induction n using Nat.strongRecOn with
  | ind n ih =>
    intro l m f pos line out hn hf
    rw [List.length_append, List.length_cons] at hf
    cases l with
    | nil =>
      rw [cutE_nil f pos line out (by omega), List.nil_append, cutE_step f 10 m pos line out (by rw [List.length_cons]; omega)]
      have h1 : stepO (10 :: m) line out = some (true, out) := rfl
      have h2 : stepN (10 :: m) = 1 := rfl
      rw [h1, h2]
      rfl
    | cons b t =>
      rw [List.cons_append, cutE_step f b _ pos line out (by rw [List.length_cons, List.length_append, List.length_cons]; simp at hf; omega), cutE_step f b t pos line out (by simp at hf ⊢; omega), stepO_app, stepN_app]
      cases stepO (b :: t) line out with
      | none => rfl
      | some r =>
        obtain ⟨l', o'⟩ := r
        dsimp only
        have hp := stepN_pos b t
        have hle := stepN_le (b :: t)
        have hd : (b :: (t ++ 10 :: m)).drop (stepN (b :: t)) = (b :: t).drop (stepN (b :: t)) ++ 10 :: m := by
          rw [← List.cons_append, List.drop_append_of_le_length hle]
        have hlen : ((b :: t).drop (stepN (b :: t))).length = (b :: t).length - stepN (b :: t) := List.length_drop
        have hbt : (b :: t).length = t.length + 1 := rfl
        rw [hd, ih ((b :: t).drop (stepN (b :: t))).length (by omega) _ m f _ l' o' rfl (by rw [List.length_append, List.length_cons]; omega), hlen]
        have : pos + stepN (b :: t) + ((b :: t).length - stepN (b :: t)) + 1 = pos + (b :: t).length + 1 := by omega
        rw [this]
/-- A text that is none is one ahead of its first wrong token. -/
theorem cutE_take : ∀ (n : Nat) (l : List UInt8) (f pos : Nat) (line : Bool) (out : List T) (p : Nat), l.length = n → l.length < f → cutE f l pos line out = .err p →
    pos ≤ p ∧ p < pos + l.length ∧ ∃ line' out', cutE f (l.take (p - pos)) pos line out = .ok line' out' := by
  intro n
  induction n using Nat.strongRecOn with
  | ind n ih =>
    intro l f pos line out p hn hf he
    cases l with
    | nil => rw [cutE_nil f pos line out (by omega)] at he; cases he
    | cons b t =>
      rw [cutE_step f b t pos line out hf] at he
      cases ho : stepO (b :: t) line out with
      | none =>
        rw [ho] at he
        cases he
        refine ⟨Nat.le_refl _, by simp, line, out, ?_⟩
        rw [Nat.sub_self, List.take_zero]
        exact cutE_nil f pos line out (by omega)
      | some r =>
        obtain ⟨l', o'⟩ := r
        rw [ho] at he
        dsimp only at he
        have hp := stepN_pos b t
        have hle := stepN_le (b :: t)
        have hlen : ((b :: t).drop (stepN (b :: t))).length = (b :: t).length - stepN (b :: t) := List.length_drop
        have hbt : (b :: t).length = t.length + 1 := rfl
        obtain ⟨h1, h2, l2, o2, h3⟩ := ih ((b :: t).drop (stepN (b :: t))).length (by omega) _ f _ l' o' p rfl (by omega) he
        refine ⟨by omega, by omega, l2, o2, ?_⟩
        obtain ⟨k, hk⟩ : ∃ k, p - pos = k + 1 := ⟨p - pos - 1, by omega⟩
        rw [hk, List.take_succ_cons, cutE_step f b (t.take k) pos line out (by rw [List.length_cons, List.length_take]; omega), stepN_take b t k (by omega), stepO_take b t k line out (by omega), ho]
        dsimp only
        rw [← h3]
        have hd : (b :: t.take k).drop (stepN (b :: t)) = ((b :: t).drop (stepN (b :: t))).take (p - (pos + stepN (b :: t))) := by
          rw [← List.take_succ_cons, List.drop_take]
          have : k + 1 - stepN (b :: t) = p - (pos + stepN (b :: t)) := by omega
          rw [this]
        rw [hd]
end Go.Proofs.Ytemdhiejbncafaa.VM
end

section
namespace Go.Proofs.Ytemdhiejbncafaa.VM
set_option linter.unusedSectionVars false
open Go AM
set_option linter.unusedVariables false
set_option linter.unusedSimpArgs false
/-- A list's cut. -/
def cutA (l : List UInt8) : CutE := cutE (l.length + 1) l 0 false []
theorem cut_vr (s : ByteArray) (hs : s.size ≤ 65536) : vr 12 0 [.t (.str s)] e0 = some (cutV s.size (cutA s.data.toList).toR, e0) := by
  rw [cut12]
  unfold cutOf cutA
  rw [decide_eq_false (by omega), cf, cutE_toR, size_list]
theorem cutV_err (n p : Nat) : cutV n (.err p) = .tup [.t (.list 3 false []), .t (.int .i64 (p : Int)), .t (.int .i64 6)] := rfl
theorem cutV_ok (n : Nat) (out : List T) (h : out.length ≤ 4096) : cutV n (.ok out) = .tup [.t (.list 3 (!out.isEmpty) out), .t (.int .i64 (n : Int)), .t (.int .i64 0)] := by
  unfold cutV
  dsimp only
  rw [decide_eq_false (by omega), cf]
theorem cutV_many (n : Nat) (out : List T) (h : 4096 < out.length) : cutV n (.ok out) = .tup [.t (.list 3 false []), .t (.int .i64 0), .t (.int .i64 2)] := by
  unfold cutV
  dsimp only
  rw [decide_eq_true h, ct]
theorem cat_some {R : Type} {a b : ByteArray} (h : a.size + b.size ≤ 9223372036854775807) (K : ByteArray → Option R) : catC a b K = K (a ++ b) := by
  unfold catC
  rw [decide_eq_true h, needC_t]
theorem app_list (a b : ByteArray) : (a ++ b).data.toList = a.data.toList ++ b.data.toList := by
  rw [ByteArray.data_append, Array.toList_append]
theorem sub_take {R : Type} (s : ByteArray) {p : Nat} (h : p ≤ s.size) (K : ByteArray → Option R) : subS s none (some (p : Int)) K = K ⟨⟨s.data.toList.take p⟩⟩ := by
  unfold subS
  simp only [Option.getD_some, Option.getD_none]
  have h1 : decide ((0 : Int) ≤ (p : Int)) = true := decide_eq_true (by omega)
  have h2 : decide ((p : Int) ≤ (s.size : Int)) = true := decide_eq_true (by omega)
  have h3 : decide ((0 : Int) ≤ 0) = true := rfl
  rw [h1, h2, h3]
  simp only [Bool.and_self]
  rw [needC_t, ext_list]
  rfl
theorem cutE_at (f : Nat) (l : List UInt8) (h : l.length < f) : cutE f l 0 false [] = cutA l := cutE_fuel _ _ _ _ _ _ h (by omega)
theorem first_spec (a0 : ByteArray) (w0 : a0.size ≤ 140737488351232) (a1 : ByteArray) (w1 : a1.size ≤ 140737488351232) : ∃ st, vr 5 0 [.t (.str a0), .t (.str a1)] ⟨[], []⟩ = some (.t (.bool true), st) := by
  refine ⟨e0, ?_⟩
  rw [eq5, live11, callK_some, asT_t]
  rw [asB_bool, endB_nil, wrap64 (by omega) (by omega)]
  by_cases hz : 20000 < (a0.size : Int) + (a1.size : Int)
  · rw [decide_eq_true hz, ct]
  rw [decide_eq_false hz, cf, cut_vr a0 (by omega), callK_some]
  have hl0 : a0.data.toList.length = a0.size := size_list a0
  have hl1 : a1.data.toList.length = a1.size := size_list a1
  cases hc : cutA a0.data.toList with
  | ok ln out =>
    by_cases hm : 4096 < out.length
    · simp only [CutE.toR, cutV_many _ _ hm, callK_some, asT_t, asI_int, asB_bool, asS_str, asL_list, asA_agg, consT_cons, endT_nil, asTup_tup, consV_cons, endV_nil, endB_nil, consB_cons, asArr_arr, asAv_av, asMp_map, asVar_var, isBuf_buf, isPtr_ptr, needC_t, ct, cf, bNT, bNF, bTA, bAT, bFA, bAF, bTO, bOT, bFO, bOF, dT, dF]
      rfl
    · simp only [CutE.toR, cutV_ok _ _ (Nat.le_of_not_lt hm), callK_some, asT_t, asI_int, asB_bool, asS_str, asL_list, asA_agg, consT_cons, endT_nil, asTup_tup, consV_cons, endV_nil, endB_nil, consB_cons, asArr_arr, asAv_av, asMp_map, asVar_var, isBuf_buf, isPtr_ptr, needC_t, ct, cf, bNT, bNF, bTA, bAT, bFA, bAF, bTO, bOT, bFO, bOF, dT, dF]
      rfl
  | err p =>
    have hc' : cutE (a0.data.toList.length + 1) a0.data.toList 0 false [] = .err p := hc
    obtain ⟨h1, h2, l2, o2, h3⟩ := cutE_take _ _ _ _ _ _ _ rfl (by omega) hc'
    have hp : p < a0.size := by omega
    rw [Nat.sub_zero] at h3
    have h4 : cutA (a0.data.toList.take p) = .ok l2 o2 := by rw [← h3]; exact (cutE_at _ _ (by rw [List.length_take]; omega)).symm
    have h5 : cutA (a0.data.toList ++ 10 :: a1.data.toList) = .err p := by
      have h6 := cutE_app _ a0.data.toList a1.data.toList ((a0.data.toList ++ 10 :: a1.data.toList).length + 1) 0 false [] rfl (by omega)
      rw [cutE_at _ a0.data.toList (by rw [List.length_append]; omega), hc] at h6
      exact h6
    have d1 : decide ((6 : Int) = 6) = true := rfl
    have d2 : decide ((p : Int) < 0) = false := decide_eq_false (by omega)
    have d3 : decide ((a0.size : Int) ≤ (p : Int)) = false := decide_eq_false (by omega)
    have z1 : (⟨⟨a0.data.toList.take p⟩⟩ : ByteArray).size ≤ 65536 := by
      show (a0.data.toList.take p).length ≤ _
      rw [List.length_take]; omega
    have z2 : (a0 ++ (⟨#[10]⟩ : ByteArray)).size = a0.size + 1 := by rw [ByteArray.size_append]; rfl
    have z3 : (a0 ++ (⟨#[10]⟩ : ByteArray) ++ a1).size = a0.size + 1 + a1.size := by rw [ByteArray.size_append, z2]
    have z4 : (⟨#[10]⟩ : ByteArray).size = 1 := rfl
    have e5 : (a0 ++ (⟨#[10]⟩ : ByteArray) ++ a1).data.toList = a0.data.toList ++ 10 :: a1.data.toList := by
      rw [app_list, app_list, List.append_assoc]; rfl
    have e6 : cutA (⟨⟨a0.data.toList.take p⟩⟩ : ByteArray).data.toList = .ok l2 o2 := h4
    simp only [CutE.toR, cutV_err, callK_some, asT_t, asI_int, asB_bool, asS_str, asL_list, asA_agg, consT_cons, endT_nil, asTup_tup, consV_cons, endV_nil, endB_nil, consB_cons, asArr_arr, asAv_av, asMp_map, asVar_var, isBuf_buf, isPtr_ptr, needC_t, ct, cf, bNT, bNF, bTA, bAT, bFA, bAF, bTO, bOT, bFO, bOF, dT, dF, d2, d3]
    rw [sub_take a0 (by omega), cut_vr _ z1, callK_some, e6]
    have fin : ∀ (K : ByteArray → Option (V × St)), catC a0 (⟨#[10]⟩) (fun s => catC s a1 K) = K (a0 ++ (⟨#[10]⟩ : ByteArray) ++ a1) := by
      intro K
      rw [cat_some (by omega), cat_some (by omega)]
    have last : vr 12 0 [.t (.str (a0 ++ (⟨#[10]⟩ : ByteArray) ++ a1))] e0 = some (.tup [.t (.list 3 false []), .t (.int .i64 (p : Int)), .t (.int .i64 6)], e0) := by
      rw [cut_vr _ (by omega), e5, h5]; rfl
    by_cases hm : 4096 < o2.length
    · simp only [CutE.toR, cutV_many _ _ hm, callK_some, asT_t, asI_int, asB_bool, asS_str, asL_list, asA_agg, consT_cons, endT_nil, asTup_tup, consV_cons, endV_nil, endB_nil, consB_cons, asArr_arr, asAv_av, asMp_map, asVar_var, isBuf_buf, isPtr_ptr, needC_t, ct, cf, bNT, bNF, bTA, bAT, bFA, bAF, bTO, bOT, bFO, bOF, dT, dF]
      rw [fin, last, callK_some]
      simp [callK_some, asT_t, asI_int, asB_bool, asS_str, asL_list, asA_agg, consT_cons, endT_nil, asTup_tup, consV_cons, endV_nil, endB_nil, consB_cons, asArr_arr, asAv_av, asMp_map, asVar_var, isBuf_buf, isPtr_ptr, needC_t, ct, cf, bNT, bNF, bTA, bAT, bFA, bAF, bTO, bOT, bFO, bOF, dT, dF]
    · simp only [CutE.toR, cutV_ok _ _ (Nat.le_of_not_lt hm), callK_some, asT_t, asI_int, asB_bool, asS_str, asL_list, asA_agg, consT_cons, endT_nil, asTup_tup, consV_cons, endV_nil, endB_nil, consB_cons, asArr_arr, asAv_av, asMp_map, asVar_var, isBuf_buf, isPtr_ptr, needC_t, ct, cf, bNT, bNF, bTA, bAT, bFA, bAF, bTO, bOT, bFO, bOF, dT, dF]
      rw [fin, last, callK_some]
      simp [callK_some, asT_t, asI_int, asB_bool, asS_str, asL_list, asA_agg, consT_cons, endT_nil, asTup_tup, consV_cons, endV_nil, endB_nil, consB_cons, asArr_arr, asAv_av, asMp_map, asVar_var, isBuf_buf, isPtr_ptr, needC_t, ct, cf, bNT, bNF, bTA, bAT, bFA, bAF, bTO, bOT, bFO, bOF, dT, dF]
end Go.Proofs.Ytemdhiejbncafaa.VM
end

section
namespace Go.Proofs.Ytemdhiejbncafaa.VM
set_option linter.unusedSectionVars false
open Go AM
set_option linter.unusedVariables false
set_option linter.unusedSimpArgs false
def CutE.outs : CutE → Option (List T)
  | .err _ => none
  | .ok _ o => some o
/-- Without anything ahead, an end of line means nothing, nor does the place. -/
theorem cutE_none : ∀ (f : Nat) (l : List UInt8) (p q : Nat) (l1 l2 : Bool), (cutE f l p l1 []).outs = (cutE f l q l2 []).outs := by
  have some_tok : ∀ (f : Nat) (l : List UInt8) (p q : Nat) (ln : Bool) (out : List T), (cutE f l p ln out).outs = (cutE f l q ln out).outs := by
    intro f
    induction f with
    | zero => intros; rfl
    | succ f ih =>
      intro l p q ln out
      cases l with
      | nil => rfl
      | cons b t =>
        unfold cutE
        dsimp only
        cases stepO (b :: t) ln out with
        | none => rfl
        | some r => obtain ⟨l', o'⟩ := r; exact ih _ _ _ _ _
  intro f
  induction f with
  | zero => intros; rfl
  | succ f ih =>
    intro l p q l1 l2
    cases l with
    | nil => rfl
    | cons b t =>
      unfold cutE
      dsimp only
      unfold stepO
      dsimp only
      cases h10 : decide (b = 10) with
      | true => simp only [cond_true]; exact ih _ _ _ _ _
      | false =>
        cases hb : decide (b = 32) || decide (b = 9) with
        | true => simp only [cond_true, cond_false]; exact ih _ _ _ _ _
        | false =>
          cases h35 : decide (b = 35) with
          | true => simp only [cond_true, cond_false]; exact ih _ _ _ _ _
          | false =>
            simp only [cond_false]
            cases tok ((b :: t).take (stepN (b :: t))) with
            | none => rfl
            | some kv =>
              obtain ⟨k, v⟩ := kv
              simp only [List.isEmpty_nil, Bool.not_true, Bool.and_false, cond_false]
              exact some_tok _ _ _ _ _ _
/-- What stands ahead stays ahead. -/
theorem cutE_pre (pre : List T) : ∀ (f : Nat) (l : List UInt8) (p q : Nat) (ln : Bool) (out : List T), out ≠ [] → (cutE f l p ln (pre ++ out)).outs = (cutE f l q ln out).outs.map (pre ++ ·) := by
  intro f
  induction f with
  | zero => intros; rfl
  | succ f ih =>
    intro l p q ln out ho
    cases l with
    | nil => rfl
    | cons b t =>
      unfold cutE
      dsimp only
      unfold stepO
      dsimp only
      cases h10 : decide (b = 10) with
      | true => simp only [cond_true]; exact ih _ _ _ _ _ ho
      | false =>
        cases hb : decide (b = 32) || decide (b = 9) with
        | true => simp only [cond_true, cond_false]; exact ih _ _ _ _ _ ho
        | false =>
          cases h35 : decide (b = 35) with
          | true => simp only [cond_true, cond_false]; exact ih _ _ _ _ _ ho
          | false =>
            simp only [cond_false]
            cases tok ((b :: t).take (stepN (b :: t))) with
            | none => rfl
            | some kv =>
              obtain ⟨k, v⟩ := kv
              have e1 : (!(pre ++ out).isEmpty) = true := by cases pre <;> cases out <;> simp_all
              have e2 : (!out.isEmpty) = true := by cases out <;> simp_all
              simp only [e1, e2, Bool.and_true]
              cases ln with
              | true =>
                simp only [cond_true]
                rw [List.append_assoc, List.append_assoc]
                have := ih ((b :: t).drop (stepN (b :: t))) (p + stepN (b :: t)) (q + stepN (b :: t)) false (out ++ ([lineT] ++ [tokT ⟨⟨(b :: t).take (stepN (b :: t))⟩⟩ k v])) (by simp)
                rw [this, List.append_assoc]
              | false =>
                simp only [cond_false]
                rw [List.append_assoc]
                exact ih _ _ _ _ _ (by simp)
/-- A line behind others. -/
def glue (out o : List T) : List T := if o = [] then out else if out = [] then o else out ++ [lineT] ++ o
theorem cutE_ne : ∀ (f : Nat) (l : List UInt8) (p : Nat) (ln : Bool) (out o : List T), out ≠ [] → (cutE f l p ln out).outs = some o → o ≠ [] := by
  intro f l p ln out o ho h
  have := cutE_pre out f l p p ln out ho
  intro h0
  subst h0
  have h2 := cutE_pre [] f l p p ln out ho
  -- the ones ahead stay
  have key : ∀ (f : Nat) (l : List UInt8) (p : Nat) (ln : Bool) (out : List T), out ≠ [] → (cutE f l p ln out).outs ≠ some [] := by
    intro f
    induction f with
    | zero => intro l p ln out ho h; cases h
    | succ f ih =>
      intro l p ln out ho
      cases l with
      | nil => intro h; cases h; exact ho rfl
      | cons b t =>
        unfold cutE
        dsimp only
        unfold stepO
        dsimp only
        cases h10 : decide (b = 10) with
        | true => simp only [cond_true]; exact ih _ _ _ _ ho
        | false =>
          cases hb : decide (b = 32) || decide (b = 9) with
          | true => simp only [cond_true, cond_false]; exact ih _ _ _ _ ho
          | false =>
            cases h35 : decide (b = 35) with
            | true => simp only [cond_true, cond_false]; exact ih _ _ _ _ ho
            | false =>
              simp only [cond_false]
              cases tok ((b :: t).take (stepN (b :: t))) with
              | none => intro h; cases h
              | some kv =>
                obtain ⟨k, v⟩ := kv
                exact ih _ _ _ _ (by simp)
  exact key f l p ln out ho h
theorem cutE_glue : ∀ (f : Nat) (l : List UInt8) (p q : Nat) (l0 : Bool) (out : List T), (cutE f l p true out).outs = (cutE f l q l0 []).outs.map (glue out) := by
  intro f
  induction f with
  | zero => intros; rfl
  | succ f ih =>
    intro l p q l0 out
    cases l with
    | nil => unfold cutE; simp [CutE.outs, glue]
    | cons b t =>
      unfold cutE
      dsimp only
      unfold stepO
      dsimp only
      cases h10 : decide (b = 10) with
      | true => simp only [cond_true]; exact ih _ _ _ _ _
      | false =>
        cases hb : decide (b = 32) || decide (b = 9) with
        | true => simp only [cond_true, cond_false]; exact ih _ _ _ _ _
        | false =>
          cases h35 : decide (b = 35) with
          | true => simp only [cond_true, cond_false]; exact ih _ _ _ _ _
          | false =>
            simp only [cond_false]
            cases tok ((b :: t).take (stepN (b :: t))) with
            | none => rfl
            | some kv =>
              obtain ⟨k, v⟩ := kv
              simp only [List.isEmpty_nil, Bool.not_true, Bool.and_false, cond_false, Bool.true_and, List.nil_append]
              have fin : ∀ pre : List T, (cutE f ((b :: t).drop (stepN (b :: t))) (p + stepN (b :: t)) false (pre ++ [tokT ⟨⟨(b :: t).take (stepN (b :: t))⟩⟩ k v])).outs = (cutE f ((b :: t).drop (stepN (b :: t))) (q + stepN (b :: t)) false [tokT ⟨⟨(b :: t).take (stepN (b :: t))⟩⟩ k v]).outs.map (pre ++ ·) :=
                fun pre => cutE_pre pre f _ _ _ _ _ (by simp)
              rw [fin]
              cases hr : (cutE f ((b :: t).drop (stepN (b :: t))) (q + stepN (b :: t)) false [tokT ⟨⟨(b :: t).take (stepN (b :: t))⟩⟩ k v]).outs with
              | none => rfl
              | some o =>
                have hne := cutE_ne _ _ _ _ _ o (by simp) hr
                simp only [Option.map_some, glue, if_neg hne]
                cases out with
                | nil => rfl
                | cons x xs => rfl
/-- What means nothing. -/
def blankX (x : List UInt8) : Prop := ∀ (rest : List UInt8) (f pos : Nat) (line : Bool) (out : List T), (x ++ rest).length < f → ∃ pos' line', (line = true → line' = true) ∧ cutE f (x ++ rest) pos line out = cutE f rest pos' line' out
theorem blank_nil : blankX [] := fun rest f pos line out _ => ⟨pos, line, id, rfl⟩
theorem blank_app {x y : List UInt8} (hx : blankX x) (hy : blankX y) : blankX (x ++ y) := by
  intro rest f pos line out hf
  rw [List.append_assoc] at hf ⊢
  obtain ⟨p1, l1, h1, e1⟩ := hx (y ++ rest) f pos line out hf
  obtain ⟨p2, l2, h2, e2⟩ := hy rest f p1 l1 out (by rw [List.length_append] at hf; omega)
  exact ⟨p2, l2, fun h => h2 (h1 h), e1.trans e2⟩
theorem blank_32 : blankX [32] := by
  intro rest f pos line out hf
  refine ⟨pos + 1, line, id, ?_⟩
  rw [List.singleton_append, cutE_step f 32 rest pos line out hf]
  rfl
theorem blank_9 : blankX [9] := by
  intro rest f pos line out hf
  refine ⟨pos + 1, line, id, ?_⟩
  rw [List.singleton_append, cutE_step f 9 rest pos line out hf]
  rfl
theorem blank_10 : blankX [10] := by
  intro rest f pos line out hf
  refine ⟨pos + 1, true, fun _ => rfl, ?_⟩
  rw [List.singleton_append, cutE_step f 10 rest pos line out hf]
  rfl
theorem blank_note : blankX [35, 32, 110, 111, 44, 32, 91, 10] := by
  intro rest f pos line out hf
  refine ⟨pos + 7 + 1, true, fun _ => rfl, ?_⟩
  have hf2 : (10 :: rest).length < f := by simp at hf ⊢; omega
  have h1 : cutE f ([35, 32, 110, 111, 44, 32, 91, 10] ++ rest) pos line out = cutE f (10 :: rest) (pos + 7) line out := by
    show cutE f (35 :: ([32, 110, 111, 44, 32, 91, 10] ++ rest)) pos line out = _
    rw [cutE_step f 35 ([32, 110, 111, 44, 32, 91, 10] ++ rest) pos line out (by simp at hf ⊢; omega)]
    rfl
  rw [h1, cutE_step f 10 rest (pos + 7) line out hf2]
  rfl
theorem more_ok : ∀ k : Nat, k < 5 → ∃ x : List UInt8, ([(.str ⟨#[32]⟩), (.str ⟨#[9]⟩), (.str ⟨#[10]⟩), (.str ⟨#[32, 35, 32, 110, 111, 44, 32, 91, 10]⟩), (.str ⟨#[10, 32, 10, 9, 10]⟩)] : List T)[k]? = some (.str ⟨⟨x⟩⟩) ∧ blankX x ∧ x.length ≤ 9
  | 0, _ => ⟨[32], rfl, blank_32, by decide⟩
  | 1, _ => ⟨[9], rfl, blank_9, by decide⟩
  | 2, _ => ⟨[10], rfl, blank_10, by decide⟩
  | 3, _ => ⟨[32, 35, 32, 110, 111, 44, 32, 91, 10], rfl, blank_app blank_32 blank_note, by decide⟩
  | 4, _ => ⟨[10, 32, 10, 9, 10], rfl, blank_app blank_10 (blank_app blank_32 (blank_app blank_10 (blank_app blank_9 blank_10))), by decide⟩
  | n + 5, h => by omega
theorem cut_out (l : List UInt8) (f : Nat) (h : l.length < f) : ∀ ln out, cutA l = .ok ln out → (cutE f l 0 false []).outs = some out := by
  intro ln out hc
  rw [cutE_at f l h, hc]; rfl
/-- Blanks at both ends. -/
theorem cut_ends (x l : List UInt8) (hx : blankX x) (ln : Bool) (out : List T) (hc : cutA l = .ok ln out) : ∃ ln', cutA (x ++ (l ++ 10 :: x)) = .ok ln' out := by
  unfold cutA
  generalize hf : (x ++ (l ++ 10 :: x)).length + 1 = f
  have hlen : (x ++ (l ++ 10 :: x)).length < f := by omega
  have hlen2 : (l ++ 10 :: x).length < f := by rw [List.length_append] at hlen; omega
  have hlen3 : l.length < f := by rw [List.length_append] at hlen2; omega
  have hlen4 : (x ++ []).length < f := by rw [List.append_nil]; rw [List.length_append, List.length_cons] at hlen2; omega
  obtain ⟨p1, l1, _, e1⟩ := hx (l ++ 10 :: x) f 0 false [] hlen
  rw [e1, cutE_app _ l x f p1 l1 [] rfl hlen2]
  have h1 := cut_out l f hlen3 ln out hc
  rw [cutE_none f l 0 p1 false l1] at h1
  cases hr : cutE f l p1 l1 [] with
  | err p => rw [hr] at h1; cases h1
  | ok ln2 o2 =>
    rw [hr] at h1
    cases h1
    dsimp only
    obtain ⟨p2, l2, h2, e2⟩ := hx [] f (p1 + l.length + 1) true out hlen4
    rw [List.append_nil] at e2
    rw [e2]
    exact ⟨l2, by obtain ⟨g, rfl⟩ : ∃ g, f = g + 1 := ⟨f - 1, by omega⟩
                  rfl⟩
/-- Blanks between lines. -/
theorem cut_between (x l m : List UInt8) (hx : blankX x) (ln lm : Bool) (a b : List T) (hl : cutA l = .ok ln a) (hm : cutA m = .ok lm b) : ∃ ln', cutA (l ++ 10 :: (x ++ m)) = .ok ln' (glue a b) := by
  unfold cutA
  generalize hf : (l ++ 10 :: (x ++ m)).length + 1 = f
  have hlen : (l ++ 10 :: (x ++ m)).length < f := by omega
  have hlen2 : l.length < f := by rw [List.length_append] at hlen; omega
  have hlen3 : (x ++ m).length < f := by rw [List.length_append, List.length_cons] at hlen; omega
  have hlen4 : m.length < f := by rw [List.length_append] at hlen3; omega
  have h1 := cut_out l f hlen2 ln a hl
  have h2 := cut_out m f hlen4 lm b hm
  rw [cutE_app _ l (x ++ m) f 0 false [] rfl hlen]
  cases hr : cutE f l 0 false [] with
  | err p => rw [hr] at h1; cases h1
  | ok ln2 o2 =>
    rw [hr] at h1
    cases h1
    dsimp only
    obtain ⟨p2, l2, h3, e2⟩ := hx m f (0 + l.length + 1) true a hlen3
    rw [e2, h3 rfl]
    have h4 := cutE_glue f m p2 0 false a
    rw [h2] at h4
    cases hr2 : cutE f m p2 true a with
    | err p => rw [hr2] at h4; cases h4
    | ok l5 o5 =>
      rw [hr2] at h4
      have h5 : o5 = glue a b := by simpa [CutE.outs] using h4
      rw [h5]
      exact ⟨_, rfl⟩
theorem cutA_tok (l : List UInt8) (ln : Bool) (out : List T) (h : cutA l = .ok ln out) : ∀ x ∈ out, IsTok x := by
  have h1 : cutS (l.length + 1) l 0 false [] = .ok out := by rw [cutE_toR]; show (cutA l).toR = _; rw [h]; rfl
  exact cutS_tok _ _ _ _ _ (by simp) _ h1
theorem line_tok : IsTok lineT := ⟨_, _, _, rfl⟩
theorem blanks_spec (a0 : ByteArray) (w0 : a0.size ≤ 140737488351232) (a1 : ByteArray) (w1 : a1.size ≤ 140737488351232) (a2 : Int) : ∃ st, vr 4 0 [.t (.str a0), .t (.str a1), .t (.int .i64 a2)] ⟨[], []⟩ = some (.t (.bool true), st) := by
  refine ⟨e0, ?_⟩
  rw [eq4, live11, callK_some, asT_t]
  rw [asB_bool, endB_nil, wrap64 (by omega) (by omega)]
  by_cases hz : 20000 < (a0.size : Int) + (a1.size : Int)
  · rw [decide_eq_true hz, ct]
  rw [decide_eq_false hz, cf, cut_vr a0 (by omega), callK_some, cut_vr a1 (by omega)]
  have hl0 : a0.data.toList.length = a0.size := size_list a0
  have hl1 : a1.data.toList.length = a1.size := size_list a1
  have bad : ∀ (n : Nat) (c : CutE), (∃ e : Int, e ≠ 0 ∧ ∃ l n', cutV n c.toR = .tup [.t (.list 3 false l), .t (.int .i64 n'), .t (.int .i64 e)]) ∨ ∃ ln out, c = .ok ln out ∧ out.length ≤ 4096 := by
    intro n c
    cases c with
    | err p => exact .inl ⟨6, by omega, _, _, rfl⟩
    | ok ln out =>
      by_cases hm : 4096 < out.length
      · exact .inl ⟨2, by omega, _, _, cutV_many n out hm⟩
      · exact .inr ⟨ln, out, rfl, by omega⟩
  have form : ∀ (n : Nat) (c : CutE), ∃ z l n' e, cutV n c.toR = .tup [.t (.list 3 z l), .t (.int .i64 n'), .t (.int .i64 e)] := by
    intro n c
    cases c with
    | err p => exact ⟨_, _, _, _, rfl⟩
    | ok ln out =>
      by_cases hm : 4096 < out.length
      · exact ⟨_, _, _, _, cutV_many n out hm⟩
      · exact ⟨_, _, _, _, cutV_ok n out (by omega)⟩
  rcases bad a0.size (cutA a0.data.toList) with ⟨e, he, l, n', hv⟩ | ⟨ln, oa, ha, na⟩
  · obtain ⟨z, l2, n2, e2, hv2⟩ := form a1.size (cutA a1.data.toList)
    rw [hv, hv2]
    simp only [callK_some, asT_t, asI_int, asB_bool, asS_str, asL_list, asA_agg, consT_cons, endT_nil, asTup_tup, consV_cons, endV_nil, endB_nil, consB_cons, asArr_arr, asAv_av, asMp_map, asVar_var, isBuf_buf, isPtr_ptr, needC_t, ct, cf, bNT, bNF, bTA, bAT, bFA, bAF, bTO, bOT, bFO, bOF, dT, dF]
    rw [decide_eq_false he]
    rfl
  rcases bad a1.size (cutA a1.data.toList) with ⟨e, he, l, n', hv⟩ | ⟨lm, ob, hb, nb⟩
  · rw [ha, hv]
    simp only [CutE.toR, cutV_ok _ _ na, callK_some, asT_t, asI_int, asB_bool, asS_str, asL_list, asA_agg, consT_cons, endT_nil, asTup_tup, consV_cons, endV_nil, endB_nil, consB_cons, asArr_arr, asAv_av, asMp_map, asVar_var, isBuf_buf, isPtr_ptr, needC_t, ct, cf, bNT, bNF, bTA, bAT, bFA, bAF, bTO, bOT, bFO, bOF, dT, dF]
    rw [decide_eq_false he]
    rfl
  rw [ha, hb]
  simp only [CutE.toR, cutV_ok _ _ na, cutV_ok _ _ nb, callK_some, asT_t, asI_int, asB_bool, asS_str, asL_list, asA_agg, consT_cons, endT_nil, asTup_tup, consV_cons, endV_nil, endB_nil, consB_cons, asArr_arr, asAv_av, asMp_map, asVar_var, isBuf_buf, isPtr_ptr, needC_t, ct, cf, bNT, bNF, bTA, bAT, bFA, bAF, bTO, bOT, bFO, bOF, dT, dF]
  rw [wrap64 (by omega) (by omega)]
  by_cases h4 : 4000 < (oa.length : Int) + (ob.length : Int)
  · rw [decide_eq_true h4, ct]
  rw [decide_eq_false h4, cf]
  have t1 := Int.tmod_lt_of_pos a2 (b := 5) (by omega)
  have t2 := Int.lt_tmod_of_pos a2 (b := 5) (by omega)
  rw [wrap64 (by omega) (by omega)]
  have t3 := Int.tmod_lt_of_pos (Int.tmod a2 5 + 5) (b := 5) (by omega)
  have t4 := Int.tmod_nonneg (a := Int.tmod a2 5 + 5) 5 (by omega)
  obtain ⟨x, hx, hbx, hxl⟩ := more_ok (Int.tmod (Int.tmod a2 5 + 5) 5).toNat (by omega)
  have d5 : (!decide ((5 : Int) = 0)) = true := rfl
  rw [d5, needC_t, needC_t, decide_eq_true t4, decide_eq_true t3, Bool.and_self, needC_t]
  unfold getT
  rw [hx]
  dsimp only
  rw [asS_str]
  have zx : (⟨⟨x⟩⟩ : ByteArray).size = x.length := rfl
  have z1 : (⟨#[10]⟩ : ByteArray).size = 1 := rfl
  have s1 : ((⟨⟨x⟩⟩ : ByteArray) ++ a0).size = x.length + a0.size := by rw [ByteArray.size_append, zx]
  have s2 : ((⟨⟨x⟩⟩ : ByteArray) ++ a0 ++ (⟨#[10]⟩ : ByteArray)).size = x.length + a0.size + 1 := by rw [ByteArray.size_append, s1, z1]
  have s3 : ((⟨⟨x⟩⟩ : ByteArray) ++ a0 ++ (⟨#[10]⟩ : ByteArray) ++ ⟨⟨x⟩⟩).size = x.length + a0.size + 1 + x.length := by rw [ByteArray.size_append, s2, zx]
  have s4 : (a0 ++ (⟨#[10]⟩ : ByteArray)).size = a0.size + 1 := by rw [ByteArray.size_append, z1]
  have s5 : (a0 ++ (⟨#[10]⟩ : ByteArray) ++ ⟨⟨x⟩⟩).size = a0.size + 1 + x.length := by rw [ByteArray.size_append, s4, zx]
  have s6 : (a0 ++ (⟨#[10]⟩ : ByteArray) ++ ⟨⟨x⟩⟩ ++ a1).size = a0.size + 1 + x.length + a1.size := by rw [ByteArray.size_append, s5]
  have e3 : ((⟨⟨x⟩⟩ : ByteArray) ++ a0 ++ (⟨#[10]⟩ : ByteArray) ++ ⟨⟨x⟩⟩).data.toList = x ++ (a0.data.toList ++ 10 :: x) := by
    rw [app_list, app_list, app_list, List.append_assoc, List.append_assoc]; rfl
  have e6 : (a0 ++ (⟨#[10]⟩ : ByteArray) ++ ⟨⟨x⟩⟩ ++ a1).data.toList = a0.data.toList ++ 10 :: (x ++ a1.data.toList) := by
    rw [app_list, app_list, app_list, List.append_assoc, List.append_assoc]; rfl
  obtain ⟨l1, c1⟩ := cut_ends x _ hbx ln oa ha
  obtain ⟨l2, c2⟩ := cut_between x _ _ hbx ln lm oa ob ha hb
  have gl : (glue oa ob).length ≤ 4001 := by
    unfold glue
    split
    · omega
    · split
      · omega
      · rw [List.length_append, List.length_append]; simp; omega
  have ta := cutA_tok _ _ _ ha
  have tb := cutA_tok _ _ _ hb
  rw [cat_some (by omega), cat_some (by omega), cat_some (by omega), cut_vr _ (by omega), callK_some, e3, c1]
  simp only [CutE.toR, cutV_ok _ _ na, callK_some, asT_t, asI_int, asB_bool, asS_str, asL_list, asA_agg, consT_cons, endT_nil, asTup_tup, consV_cons, endV_nil, endB_nil, consB_cons, asArr_arr, asAv_av, asMp_map, asVar_var, isBuf_buf, isPtr_ptr, needC_t, ct, cf, bNT, bNF, bTA, bAT, bFA, bAF, bTO, bOT, bFO, bOF, dT, dF]
  rw [cat_some (by omega), cat_some (by omega), cat_some (by omega), cut_vr _ (by omega), callK_some, e6, c2]
  simp only [CutE.toR, cutV_ok _ (glue oa ob) (by omega), callK_some, asT_t, asI_int, asB_bool, asS_str, asL_list, asA_agg, consT_cons, endT_nil, asTup_tup, consV_cons, endV_nil, endB_nil, consB_cons, asArr_arr, asAv_av, asMp_map, asVar_var, isBuf_buf, isPtr_ptr, needC_t, ct, cf, bNT, bNF, bTA, bAT, bFA, bAF, bTO, bOT, bFO, bOF, dT, dF]
  rw [same14 _ _ oa ta (by omega), callK_some, asT_t]
  rw [asB_bool, endB_nil, Bool.not_true, cf]
  have n1 : (decide (oa.length * (32 + 1) ≤ 70368744177664) && decide (32 ≤ 1048576)) = true := by rw [decide_eq_true (by omega)]; rfl
  have n2 : (decide ((oa.length + 1) * (32 + 1) ≤ 70368744177664) && decide (32 ≤ 1048576)) = true := by rw [decide_eq_true (by omega)]; rfl
  rw [needC_true n1]
  have fin : ∀ (z z' : Bool) (w : List T), w.length ≤ 4001 → w ++ ob = glue oa ob → (∀ x ∈ w, IsTok x) → J4_17 true (!ob.isEmpty) ob (!(glue oa ob).isEmpty) (glue oa ob) z w = some (.t (.bool true), e0) := by
    intro z z' w hw hg ht
    have n3 : (decide ((w.length + ob.length) * (32 + 1) ≤ 70368744177664) && decide (32 ≤ 1048576)) = true := by rw [decide_eq_true (by omega)]; rfl
    rw [J4_17_eq, ct, needC_true n3, hg, same14 _ _ (glue oa ob) (by rw [← hg]; intro y hy; exact (List.mem_append.1 hy).elim (ht y) (tb y)) (by omega), callK_some, asT_t]
    rw [asB_bool, endB_nil]
  by_cases h0 : oa = []
  · subst h0
    have d1 : decide ((0 : Int) < (([] : List T).length : Int)) = false := rfl
    rw [d1, cf]
    refine fin _ true [] (by simp) ?_ (by simp)
    unfold glue
    split
    · rename_i h; rw [h]; rfl
    · rfl
  · have d1 : decide ((0 : Int) < (oa.length : Int)) = true := decide_eq_true (by cases oa <;> simp_all)
    rw [d1, ct]
    by_cases h1 : ob = []
    · subst h1
      have d2 : decide ((0 : Int) < (([] : List T).length : Int)) = false := rfl
      rw [d2, cf]
      refine fin _ true oa (by omega) ?_ ta
      unfold glue
      rw [if_pos rfl, List.append_nil]
    · have d2 : decide ((0 : Int) < (ob.length : Int)) = true := decide_eq_true (by cases ob <;> simp_all)
      rw [d2, ct, needC_true n2]
      refine fin _ true _ ?_ ?_ ?_
      · rw [List.length_append]; simp; omega
      · unfold glue
        rw [if_neg h1, if_neg h0]
        rfl
      · intro y hy
        rcases List.mem_append.1 hy with h | h
        · exact ta y h
        · rw [List.mem_singleton] at h; rw [h]; exact line_tok
end Go.Proofs.Ytemdhiejbncafaa.VM
end
