/- AM, the nineteenth part: regions whose order is open. Conditions: none. -/
import Derived.Test.YtcdeeppiljcddaaAm18
namespace Go.Proofs.Ytcdeeppiljcddaa.AM
open Go Go.RowKit
set_option linter.unusedSectionVars false
set_option linter.unusedSimpArgs false
set_option linter.unusedVariables false

def guardB (ops : Array Oper) (o : Oper) (e : Env) : Option Bool :=
  match o.guard with
  | none => some true
  | some (g, want) => match (ops[g]?).bind (·.dst) with
    | some d => match e.get d with
      | .bool b => some (b == want)
      | .tuple vs => bif vs.isEmpty then some false else none
      | _ => none
    | none => none
theorem guardC_B {R : Type} {r : R} {ops : Array Oper} {o : Oper} {e : Env} {yes no : Env → Option R} (hg : guardC ops o e yes no = some r) :
    (∃ e', (∀ t, e'.get t = e.get t) ∧ yes e' = some r ∧ guardB ops o e = some true) ∨ (∃ e', (∀ t, e'.get t = e.get t) ∧ no e' = some r ∧ guardB ops o e = some false) := by
  unfold guardC at hg
  split at hg
  · rename_i hgu
    exact .inl ⟨e, fun _ => rfl, hg, by simp [guardB, hgu]⟩
  · rename_i g want hgu
    split at hg
    · rename_i d hd
      split at hg
      · rename_i b hb
        have hsame : ∀ t, Env.get ((d, .bool b) :: e) t = e.get t := by
          intro t
          simp only [Env.get]
          by_cases h : d = t
          · subst h; simp [hb]
          · have : (d == t) = false := by simpa using h
            simp [this]
        split at hg <;> split at hg
        · exact .inl ⟨_, hsame, hg, by simp [guardB, hgu, hd, hb]⟩
        · exact .inr ⟨_, hsame, hg, by simp [guardB, hgu, hd, hb]⟩
        · exact .inr ⟨_, hsame, hg, by simp [guardB, hgu, hd, hb]⟩
        · exact .inl ⟨_, hsame, hg, by simp [guardB, hgu, hd, hb]⟩
      · rename_i vs hvs
        cases hem : vs.isEmpty <;> rw [hem] at hg
        · cases hg
        · exact .inr ⟨e, fun _ => rfl, hg, by simp [guardB, hgu, hd, hvs, hem]⟩
      · cases hg
    · cases hg

/-- What the run in the text's order tells of operation j. -/
structure TraceAt (P : Program) (H : Hint) (call : FuncId → List Value → Hp → Option (Value × Hp)) (ops : Array Oper) (Hs : Nat → Hp) (j : Nat) (o : Oper) (v : Value) (tk : Bool) (e e1 : Env) (g g1 : Hp) : Prop where
  env : ∀ t, e1.get t = (e.put o.dst v).get t
  guard : guardB ops o e = some tk
  skip : tk = false → v = undef ∧ g1 = g
  pure : tk = true → cls o = .pure → g1 = g ∧ opC P H call e.eval o g (fun v h => some (v, h)) = some (v, g)
  reads : tk = true → cls o = .reads → g1 = g ∧ opC P H call e.eval o (Hs (actsAhead ops j)) (fun v h => some (v, h)) = some (v, Hs (actsAhead ops j))
  acts : tk = true → cls o = .acts → besideRead ops j = false → opC P H call e.eval o g (fun v h => some (v, h)) = some (v, g1)
  acts2 : tk = true → cls o = .acts → besideRead ops j = true → ∃ g2, opC P H call e.eval o { g with low := g.next } (fun v h => some (v, h)) = some (v, g2) ∧ g.next ≤ g2.low ∧ g1 = { g2 with low := g.low }

theorem eval_same {e e' : Env} (h : ∀ t, e'.get t = e.get t) : e'.eval = e.eval := by
  funext x
  cases x <;> first | exact h _ | rfl
theorem put_same {e e' : Env} (h : ∀ t, e'.get t = e.get t) (d : Option Nat) (v : Value) (t : Nat) : (e'.put d v).get t = (e.put d v).get t := by
  rw [get_put, get_put, h]

theorem before_lt {ops : Array Oper} (hd : DrawOK ops) : ∀ (j q : Nat), ((Region.before ops).getD j 0).testBit q = true → q < j := by
  intro j
  induction j using Nat.strongRecOn with
  | _ j ih =>
    intro q hq
    cases ho : ops[j]? with
    | none =>
      have : (Region.before ops).getD j 0 = 0 := by
        rw [Array.getD_eq_getD_getElem?, Array.getElem?_eq_none]
        · rfl
        · rw [before_eq, foldB_size]
          have := Array.getElem?_eq_none_iff.1 ho
          have h0 : (#[] : Array Nat).size = 0 := rfl
          simp only [h0, Array.length_toList]
          omega
      rw [this] at hq
      simp at hq
    | some o =>
      obtain ⟨e, he, hb, h⟩ := before_edge ops ho hq
      have := hd.lt j o e ho he hb
      rcases h with rfl | h
      · exact this
      · have := ih e.on this q h
        omega
theorem actsAhead_le {ops : Array Oper} (hd : DrawOK ops) (i : Nat) (hi : i ≤ ops.size) : actsAhead ops i ≤ cnt ops (fun _ => true) i := by
  rw [actsAhead_cnt]
  have e1 : cnt ops (fun j => ((Region.before ops).getD i 0).testBit j) ops.size = cnt ops (fun j => ((Region.before ops).getD i 0).testBit j && upTo i j) ops.size :=
    cnt_congr ops _ fun j _ _ => by
      simp only [Bool.and_eq_true, upTo, decide_eq_true_eq]
      exact ⟨fun h => ⟨h, before_lt hd i j h⟩, fun h => h.1⟩
  rw [e1, ← cnt_full]
  rw [← cnt_upTo ops i ops.size hi]
  have le : ∀ (n : Nat), cnt ops (fun j => ((Region.before ops).getD i 0).testBit j && upTo i j) n ≤ cnt ops (upTo i) n := by
    intro n
    induction n with
    | zero => exact Nat.le_refl _
    | succ n ih =>
      rw [cnt, cnt]
      by_cases h : (((Region.before ops).getD i 0).testBit n && upTo i n) = true ∧ ((ops[n]?).map actsB).getD false = true
      · rw [if_pos h, if_pos ⟨by simp only [Bool.and_eq_true] at h; exact h.1.2, h.2⟩]
        omega
      · rw [if_neg h]
        omega
  exact le _

section
variable {P : Program} {H : Hint} {call : FuncId → List Value → Hp → Option (Value × Hp)}

theorem trace {ops : Array Oper} (hd : DrawOK ops) {R : Type} {r : R} {K : Env → Hp → Option R} : ∀ (l : List Oper) (i : Nat) (e : Env) (h : Hp) (hs : List Hp), i ≤ ops.size → ops.toList.drop i = l → hs.length = cnt ops (fun _ => true) i + 1 → hs.getD (cnt ops (fun _ => true) i) h = h →
    drawC P H call ops l i e h hs K = some r → ∃ (val : Nat → Value) (took : Nat → Bool) (E : Nat → Env) (Hh Hs : Nat → Hp), (∀ t, (E i).get t = e.get t) ∧ Hh i = h ∧ (∀ k, k < hs.length → Hs k = hs.getD k h) ∧
      (∀ j o, i ≤ j → ops[j]? = some o → TraceAt P H call ops Hs j o (val j) (took j) (E j) (E (j + 1)) (Hh j) (Hh (j + 1))) ∧ (∀ j, i ≤ j → j ≤ ops.size → Hs (cnt ops (fun _ => true) j) = Hh j) ∧
      ∃ en, (∀ t, en.get t = (E ops.size).get t) ∧ K en (Hh ops.size) = some r
  | [], i, e, h, hs, hin, hl, hlen, hlast, hk => by
    have hi : i = ops.size := by
      have := List.drop_eq_nil_iff.1 hl
      simp at this
      omega
    subst hi
    refine ⟨fun _ => undef, fun _ => false, fun _ => e, fun _ => h, fun k => hs.getD k h, fun _ => rfl, rfl, fun _ _ => rfl, ?_, ?_, e, fun _ => rfl, hk⟩
    · intro j o hj ho
      rw [Array.getElem?_eq_none hj] at ho
      cases ho
    · intro j h1 h2
      have : j = ops.size := by omega
      subst this
      exact hlast
  | o :: rest, i, e, h, hs, hin, hl, hlen, hlast, hk => by
    have hio : ops[i]? = some o := by
      have : (ops.toList.drop i)[0]? = some o := by rw [hl]; rfl
      rw [List.getElem?_drop] at this
      simpa using this
    have hilt : i < ops.size := by
      rcases Nat.lt_or_ge i ops.size with h | h
      · exact h
      · rw [Array.getElem?_eq_none h] at hio; cases hio
    have hrest : ops.toList.drop (i + 1) = rest := by
      have : (ops.toList.drop i).drop 1 = rest := by rw [hl]; rfl
      rwa [List.drop_drop] at this
    have hcnt : cnt ops (fun _ => true) (i + 1) = cnt ops (fun _ => true) i + (if actsB o = true then 1 else 0) := by
      rw [cnt, hio]
      simp
    -- how the rest's functions are put behind this operation's
    have build : ∀ (v : Value) (tk : Bool) (e1 : Env) (g1 : Hp) (hs1 : List Hp), (∀ k, k < hs.length → hs1.getD k g1 = hs.getD k h) → hs.length ≤ hs1.length →
        (∃ (val : Nat → Value) (took : Nat → Bool) (E : Nat → Env) (Hh Hs : Nat → Hp), (∀ t, (E (i + 1)).get t = e1.get t) ∧ Hh (i + 1) = g1 ∧ (∀ k, k < hs1.length → Hs k = hs1.getD k g1) ∧
          (∀ j o, i + 1 ≤ j → ops[j]? = some o → TraceAt P H call ops Hs j o (val j) (took j) (E j) (E (j + 1)) (Hh j) (Hh (j + 1))) ∧ (∀ j, i + 1 ≤ j → j ≤ ops.size → Hs (cnt ops (fun _ => true) j) = Hh j) ∧
          ∃ en, (∀ t, en.get t = (E ops.size).get t) ∧ K en (Hh ops.size) = some r) →
        (∀ Hs : Nat → Hp, (∀ k, k < hs.length → Hs k = hs.getD k h) → ∀ e2, (∀ t, Env.get e2 t = e1.get t) → TraceAt P H call ops Hs i o v tk e e2 h g1) →
        ∃ (val : Nat → Value) (took : Nat → Bool) (E : Nat → Env) (Hh Hs : Nat → Hp), (∀ t, (E i).get t = e.get t) ∧ Hh i = h ∧ (∀ k, k < hs.length → Hs k = hs.getD k h) ∧
          (∀ j o, i ≤ j → ops[j]? = some o → TraceAt P H call ops Hs j o (val j) (took j) (E j) (E (j + 1)) (Hh j) (Hh (j + 1))) ∧ (∀ j, i ≤ j → j ≤ ops.size → Hs (cnt ops (fun _ => true) j) = Hh j) ∧
          ∃ en, (∀ t, en.get t = (E ops.size).get t) ∧ K en (Hh ops.size) = some r := by
      intro v tk e1 g1 hs1 hpre hle ⟨val, took, E, Hh, Hs, a1, a2, a3, a4, a5, en, a6, a7⟩ hat
      have b3 : ∀ k, k < hs.length → Hs k = hs.getD k h := fun k hk => by rw [a3 k (by omega), hpre k hk]
      refine ⟨fun j => if j = i then v else val j, fun j => if j = i then tk else took j, fun j => if j = i then e else E j, fun j => if j = i then h else Hh j, Hs, fun _ => by simp, by simp, b3, ?_, ?_, en, ?_, ?_⟩
      · intro j o2 hj ho2
        by_cases e0 : j = i
        · subst e0
          rw [hio] at ho2
          cases ho2
          have : ¬ (j + 1 = j) := by omega
          simp only [if_true, this, if_false]
          rw [a2]
          exact hat Hs b3 _ a1
        · have : ¬ (j + 1 = i) := by omega
          simp only [e0, this, if_false]
          exact a4 j o2 (by omega) ho2
      · intro j h1 h2
        by_cases e0 : j = i
        · subst e0
          simp only [if_true]
          rw [b3 _ (by omega)]
          exact hlast
        · simp only [e0, if_false]
          exact a5 j (by omega) h2
      · have : ¬ (ops.size = i) := by omega
        simp only [this, if_false]
        exact a6
      · have : ¬ (ops.size = i) := by omega
        simp only [this, if_false]
        exact a7
    rw [drawC] at hk
    rcases guardC_B hk with ⟨e', he, hy, hg⟩ | ⟨e', he, hn, hg⟩
    · cases hcl : cls o <;> simp only [hcl] at hy
      · -- pure
        have hna : actsB o = false := by simp [actsB, hcl]
        rw [opC_eq, eval_same he] at hy
        obtain ⟨q, hq, hy2⟩ := Option.bind_eq_some_iff.1 hy
        obtain ⟨v, h2⟩ := q
        have := opC_quiet hna hq
        subst this
        refine build v true _ h2 hs (fun k hk => rfl) (Nat.le_refl _) (trace hd rest (i + 1) _ _ _ hilt hrest (by rw [hcnt, hna]; simpa using hlen) (by rw [hcnt, hna]; simpa using hlast) hy2) ?_
        intro Hs _ e2 he2
        exact ⟨(fun t => by rw [he2, put_same he]), hg, (fun h => by cases h), fun _ _ => ⟨rfl, hq⟩, (fun _ h => by rw [hcl] at h; cases h), (fun _ h => by rw [hcl] at h; cases h), (fun _ h => by rw [hcl] at h; cases h)⟩
      · -- reads
        have hna : actsB o = false := by simp [actsB, hcl]
        rw [opC_eq, eval_same he] at hy
        obtain ⟨q, hq, hy2⟩ := Option.bind_eq_some_iff.1 hy
        obtain ⟨v, h2⟩ := q
        have hq2 := opC_quiet hna hq
        refine build v true _ h hs (fun k hk => rfl) (Nat.le_refl _) (trace hd rest (i + 1) _ _ _ hilt hrest (by rw [hcnt, hna]; simpa using hlen) (by rw [hcnt, hna]; simpa using hlast) hy2) ?_
        intro Hs hHs e2 he2
        have hle := actsAhead_le hd i hin
        rw [hq2, ← hHs _ (by omega)] at hq
        exact ⟨(fun t => by rw [he2, put_same he]), hg, (fun h => by cases h), (fun _ h => by rw [hcl] at h; cases h), fun _ _ => ⟨rfl, hq⟩, (fun _ h => by rw [hcl] at h; cases h), (fun _ h => by rw [hcl] at h; cases h)⟩
      · -- acts
        have hna : actsB o = true := by simp [actsB, hcl]
        have hpre : ∀ (g : Hp) k, k < hs.length → (hs ++ [g]).getD k g = hs.getD k h := by
          intro g k hk
          simp only [List.getD_eq_getElem?_getD]
          rw [List.getElem?_append_left hk]
          rw [List.getElem?_eq_getElem hk]
          rfl
        have hlast2 : ∀ g : Hp, (hs ++ [g]).getD (cnt ops (fun _ => true) (i + 1)) g = g := by
          intro g
          rw [hcnt, hna, if_pos rfl, ← hlen]
          simp
        cases hbr : besideRead ops i <;> rw [hbr] at hy <;> simp only [cond_true, cond_false] at hy
        · rw [opC_eq, eval_same he] at hy
          obtain ⟨q, hq, hy2⟩ := Option.bind_eq_some_iff.1 hy
          obtain ⟨v, h2⟩ := q
          refine build v true _ h2 (hs ++ [h2]) (hpre h2) (by simp) (trace hd rest (i + 1) _ _ _ hilt hrest (by rw [hcnt, hna, if_pos rfl]; simp [hlen]) (hlast2 h2) hy2) ?_
          intro Hs hHs e2 he2
          exact ⟨(fun t => by rw [he2, put_same he]), hg, (fun h => by cases h), (fun _ h => by rw [hcl] at h; cases h), (fun _ h => by rw [hcl] at h; cases h), fun _ _ _ => hq, (fun _ _ h => by rw [hbr] at h; cases h)⟩
        · rw [opC_eq, eval_same he] at hy
          obtain ⟨q, hq, hy2⟩ := Option.bind_eq_some_iff.1 hy
          obtain ⟨v, h2⟩ := q
          obtain ⟨hl2, hy3⟩ := needC_some hy2
          refine build v true _ { h2 with low := h.low } (hs ++ [{ h2 with low := h.low }]) (hpre _) (by simp) (trace hd rest (i + 1) _ _ _ hilt hrest (by rw [hcnt, hna, if_pos rfl]; simp [hlen]) (hlast2 _) hy3) ?_
          intro Hs hHs e2 he2
          exact ⟨(fun t => by rw [he2, put_same he]), hg, (fun h => by cases h), (fun _ h => by rw [hcl] at h; cases h), (fun _ h => by rw [hcl] at h; cases h), (fun _ _ h => by rw [hbr] at h; cases h), fun _ _ _ => ⟨h2, hq, of_decide_eq_true hl2, rfl⟩⟩
    · cases hna : actsB o with
      | false =>
        rw [hna, cond_false] at hn
        refine build undef false _ h hs (fun k hk => rfl) (Nat.le_refl _) (trace hd rest (i + 1) _ _ _ hilt hrest (by rw [hcnt, hna]; simpa using hlen) (by rw [hcnt, hna]; simpa using hlast) hn) ?_
        intro Hs _ e2 he2
        exact ⟨(fun t => by rw [he2, put_same he]), hg, fun _ => ⟨rfl, rfl⟩, (fun h => by cases h), (fun h => by cases h), (fun h => by cases h), (fun h => by cases h)⟩
      | true =>
        rw [hna, cond_true] at hn
        refine build undef false _ h (hs ++ [h]) (fun k hk => ?_) (by simp) (trace hd rest (i + 1) _ _ _ hilt hrest (by rw [hcnt, hna, if_pos rfl]; simp [hlen]) (by rw [hcnt, hna, if_pos rfl, ← hlen]; simp) hn) ?_
        · simp only [List.getD_eq_getElem?_getD]
          rw [List.getElem?_append_left hk]
        · intro Hs _ e2 he2
          exact ⟨(fun t => by rw [he2, put_same he]), hg, fun _ => ⟨rfl, rfl⟩, (fun h => by cases h), (fun h => by cases h), (fun h => by cases h), (fun h => by cases h)⟩
end
end Go.Proofs.Ytcdeeppiljcddaa.AM
