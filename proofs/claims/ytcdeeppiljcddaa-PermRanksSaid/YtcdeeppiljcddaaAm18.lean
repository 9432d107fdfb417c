/- AM, the eighteenth part: what a region's edges order. Conditions: none. -/
import Derived.Test.YtcdeeppiljcddaaAm17
namespace Go.Proofs.Ytcdeeppiljcddaa.AM
open Go Go.RowKit
set_option linter.unusedSectionVars false
set_option linter.unusedSimpArgs false
set_option linter.unusedVariables false

/-! What stands before what. -/
def stepB (acc : Array Nat) (o : Oper) : Array Nat := acc.push (o.after.foldl (fun s e => if Region.binds .any e then s ||| 2 ^ e.on ||| acc.getD e.on 0 else s) 0)
theorem before_eq (ops : Array Oper) : Region.before ops = ops.toList.foldl stepB #[] := by
  unfold Region.before
  rw [← Array.foldl_toList]
  rfl
theorem foldB_size : ∀ (l : List Oper) (acc : Array Nat), (l.foldl stepB acc).size = acc.size + l.length
  | [], acc => rfl
  | o :: l, acc => by rw [List.foldl_cons, foldB_size l]; simp [stepB]; omega
theorem foldB_keep : ∀ (l : List Oper) (acc : Array Nat) (k : Nat), k < acc.size → (l.foldl stepB acc)[k]? = acc[k]?
  | [], acc, k, _ => rfl
  | o :: l, acc, k, hk => by
    rw [List.foldl_cons, foldB_keep l _ k (by simp [stepB]; omega)]
    simp only [stepB, Array.getElem?_push]
    rw [if_neg (by omega)]
theorem foldl_bits (acc : Array Nat) (q : Nat) : ∀ (l : List Edge) (s : Nat), (l.foldl (fun s e => if Region.binds .any e then s ||| 2 ^ e.on ||| acc.getD e.on 0 else s) s).testBit q = true →
    s.testBit q = true ∨ ∃ e ∈ l, Region.binds .any e = true ∧ (q = e.on ∨ (acc.getD e.on 0).testBit q = true)
  | [], s, h => .inl h
  | e :: l, s, h => by
    rw [List.foldl_cons] at h
    rcases foldl_bits acc q l _ h with h1 | ⟨e', h1, h2, h3⟩
    · split at h1
      · rename_i hb
        simp only [Nat.testBit_or, Bool.or_eq_true] at h1
        rcases h1 with (h1 | h1) | h1
        · exact .inl h1
        · refine .inr ⟨e, by simp, hb, .inl ?_⟩
          rw [Nat.testBit_two_pow] at h1
          exact (of_decide_eq_true h1).symm
        · exact .inr ⟨e, by simp, hb, .inr h1⟩
      · exact .inl h1
    · exact .inr ⟨e', by simp [h1], h2, h3⟩
theorem foldl_bits_keep (acc : Array Nat) (q : Nat) : ∀ (l : List Edge) (s : Nat), s.testBit q = true → (l.foldl (fun s e => if Region.binds .any e then s ||| 2 ^ e.on ||| acc.getD e.on 0 else s) s).testBit q = true
  | [], s, h => h
  | e :: l, s, h => by
    rw [List.foldl_cons]
    refine foldl_bits_keep acc q l _ ?_
    split
    · simp [Nat.testBit_or, h]
    · exact h
theorem foldl_bits_rev (acc : Array Nat) (q : Nat) : ∀ (l : List Edge) (s : Nat) (e : Edge), e ∈ l → Region.binds .any e = true → (acc.getD e.on 0).testBit q = true → (l.foldl (fun s e => if Region.binds .any e then s ||| 2 ^ e.on ||| acc.getD e.on 0 else s) s).testBit q = true
  | [], s, e, h, _, _ => by cases h
  | x :: l, s, e, h, hb, hq => by
    rw [List.foldl_cons]
    cases h with
    | head =>
      refine foldl_bits_keep acc q l _ ?_
      rw [if_pos hb, Nat.testBit_or, hq]
      simp
    | tail _ h => exact foldl_bits_rev acc q l _ e h hb hq
/-- How the row of an operation is made out of those ahead. -/
theorem before_row (ops : Array Oper) {j : Nat} {o : Oper} (ho : ops[j]? = some o) :
    ∃ acc : Array Nat, acc.size = j ∧ (∀ k, k < j → (Region.before ops).getD k 0 = acc.getD k 0) ∧ (Region.before ops).getD j 0 = o.after.foldl (fun s e => if Region.binds .any e then s ||| 2 ^ e.on ||| acc.getD e.on 0 else s) 0 := by
  have hj : j < ops.toList.length := by
    rcases Nat.lt_or_ge j ops.size with h | h
    · simpa using h
    · rw [Array.getElem?_eq_none h] at ho; cases ho
  have hsplit : ops.toList = ops.toList.take j ++ o :: ops.toList.drop (j + 1) := by
    have : ops.toList[j]? = some o := by simpa using ho
    rw [List.getElem?_eq_some_iff] at this
    obtain ⟨h1, h2⟩ := this
    rw [← h2, List.getElem_cons_drop, List.take_append_drop]
  have hE : Region.before ops = (ops.toList.drop (j + 1)).foldl stepB (stepB ((ops.toList.take j).foldl stepB #[]) o) := by
    rw [before_eq]
    conv => lhs; rw [hsplit]
    rw [List.foldl_append, List.foldl_cons]
  generalize hacc : (ops.toList.take j).foldl stepB #[] = acc at hE
  have hsz : acc.size = j := by
    rw [← hacc, foldB_size]
    simp only [List.length_take]
    have : (#[] : Array Nat).size = 0 := rfl
    omega
  refine ⟨acc, hsz, ?_, ?_⟩
  · intro k hk
    rw [hE, Array.getD_eq_getD_getElem?, foldB_keep _ _ k (by simp [stepB]; omega), Array.getD_eq_getD_getElem?]
    simp only [stepB, Array.getElem?_push]
    rw [if_neg (by omega)]
  · rw [hE, Array.getD_eq_getD_getElem?, foldB_keep _ _ j (by simp [stepB]; omega)]
    simp only [stepB, Array.getElem?_push, hsz]
    simp
theorem before_sub (ops : Array Oper) {j q : Nat} {o : Oper} (ho : ops[j]? = some o) {e : Edge} (he : e ∈ o.after) (hb : Region.binds .any e = true) (hlt : e.on < j) (hq : ((Region.before ops).getD e.on 0).testBit q = true) : ((Region.before ops).getD j 0).testBit q = true := by
  obtain ⟨acc, h1, h2, h3⟩ := before_row ops ho
  rw [h3, ← Array.foldl_toList]
  rw [h2 _ hlt] at hq
  exact foldl_bits_rev acc q _ 0 e (by simpa using he) hb hq
/-- Whatever is told to stand before an operation is told by one of its edges. -/
theorem before_edge (ops : Array Oper) {j q : Nat} {o : Oper} (ho : ops[j]? = some o) (hb : ((Region.before ops).getD j 0).testBit q = true) :
    ∃ e ∈ o.after, Region.binds .any e = true ∧ (q = e.on ∨ ((Region.before ops).getD e.on 0).testBit q = true) := by
  have hj : j < ops.toList.length := by
    rcases Nat.lt_or_ge j ops.size with h | h
    · simpa using h
    · rw [Array.getElem?_eq_none h] at ho; cases ho
  have hsplit : ops.toList = ops.toList.take j ++ o :: ops.toList.drop (j + 1) := by
    have : ops.toList[j]? = some o := by simpa using ho
    rw [List.getElem?_eq_some_iff] at this
    obtain ⟨h1, h2⟩ := this
    rw [← h2, List.getElem_cons_drop, List.take_append_drop]
  have hE : Region.before ops = (ops.toList.drop (j + 1)).foldl stepB (stepB ((ops.toList.take j).foldl stepB #[]) o) := by
    rw [before_eq]
    conv => lhs; rw [hsplit]
    rw [List.foldl_append, List.foldl_cons]
  generalize hacc : (ops.toList.take j).foldl stepB #[] = acc at hE
  have hsz : acc.size = j := by
    rw [← hacc, foldB_size]
    simp only [List.length_take]
    have : (#[] : Array Nat).size = 0 := rfl
    omega
  have hget : ∀ k, k < j → (Region.before ops).getD k 0 = acc.getD k 0 := by
    intro k hk
    rw [hE, Array.getD_eq_getD_getElem?, foldB_keep _ _ k (by simp [stepB]; omega), Array.getD_eq_getD_getElem?]
    simp only [stepB, Array.getElem?_push]
    rw [if_neg (by omega)]
  have hat : (Region.before ops).getD j 0 = o.after.foldl (fun s e => if Region.binds .any e then s ||| 2 ^ e.on ||| acc.getD e.on 0 else s) 0 := by
    rw [hE, Array.getD_eq_getD_getElem?, foldB_keep _ _ j (by simp [stepB]; omega)]
    simp only [stepB, Array.getElem?_push, hsz]
    simp
  rw [hat, ← Array.foldl_toList] at hb
  rcases foldl_bits acc q _ _ hb with h1 | ⟨e, h1, h2, h3⟩
  · simp at h1
  · refine ⟨e, by simpa using h1, h2, ?_⟩
    rcases h3 with h3 | h3
    · exact .inl h3
    · by_cases hk : e.on < j
      · exact .inr (by rw [hget _ hk]; exact h3)
      · have : acc.getD e.on 0 = 0 := by
          rw [Array.getD_eq_getD_getElem?, Array.getElem?_eq_none (by omega)]
          rfl
        rw [this] at h3
        simp at h3

/-- Listed operations, downward closed. -/
def Closed (ops : Array Oper) (S : Nat → Bool) : Prop := ∀ j o, ops[j]? = some o → S j = true → ∀ e ∈ o.after, Region.binds .any e = true → S e.on = true
theorem closed_before {ops : Array Oper} {S : Nat → Bool} (hS : Closed ops S) (hlt : ∀ j o e, ops[j]? = some o → e ∈ o.after → Region.binds .any e = true → e.on < j) :
    ∀ (j : Nat) (o : Oper), ops[j]? = some o → (∀ e ∈ o.after, Region.binds .any e = true → S e.on = true) → ∀ q, ((Region.before ops).getD j 0).testBit q = true → S q = true := by
  intro j
  induction j using Nat.strongRecOn with
  | _ j ih =>
    intro o ho hp q hq
    obtain ⟨e, he, hb, h⟩ := before_edge ops ho hq
    rcases h with rfl | h
    · exact hp e he hb
    · have hej := hlt j o e ho he hb
      cases h2 : ops[e.on]? with
      | none =>
        have : (Region.before ops).getD e.on 0 = 0 := by
          rw [Array.getD_eq_getD_getElem?, Array.getElem?_eq_none]
          · rfl
          · rw [before_eq, foldB_size]
            have := Array.getElem?_eq_none_iff.1 h2
            simp
            omega
        rw [this] at h
        simp at h
      | some o2 => exact ih e.on hej o2 h2 (fun e2 he2 hb2 => hS e.on o2 h2 (hp e he hb) e2 he2 hb2) q h

theorem before_trans {ops : Array Oper} (hlt : ∀ j o e, ops[j]? = some o → e ∈ o.after → Region.binds .any e = true → e.on < j) : ∀ (i q p : Nat), ((Region.before ops).getD i 0).testBit q = true → ((Region.before ops).getD q 0).testBit p = true → ((Region.before ops).getD i 0).testBit p = true := by
  intro i
  induction i using Nat.strongRecOn with
  | _ i ih =>
    intro q p hq hp
    cases ho : ops[i]? with
    | none =>
      have : (Region.before ops).getD i 0 = 0 := by
        rw [Array.getD_eq_getD_getElem?, Array.getElem?_eq_none]
        · rfl
        · rw [before_eq, foldB_size]
          have := Array.getElem?_eq_none_iff.1 ho
          have h0 : (#[] : Array Nat).size = 0 := rfl
          simp only [h0, Array.length_toList]
          omega
      rw [this] at hq
      simp at hq
    | some o =>
      obtain ⟨e, he, hb, h⟩ := before_edge ops ho hq
      have hel := hlt i o e ho he hb
      rcases h with rfl | h
      · exact before_sub ops ho he hb hel hp
      · exact before_sub ops ho he hb hel (ih e.on hel q p h hp)

structure DrawOK (ops : Array Oper) : Prop where
  lt : ∀ j o e, ops[j]? = some o → e ∈ o.after → Region.binds .any e = true → e.on < j
  pair : ∀ i j x y, i < j → ops[i]? = some x → ops[j]? = some y → ((Region.before ops).getD j 0).testBit i = true ∨
    (x.apart ops y = true ∧ ¬ (actsB x = true ∧ actsB y = true) ∧ (readsB x = true → actsB y = true → makesB y = true) ∧ (actsB x = true → readsB y = true → makesB x = true))
theorem okDraw_ok {ops : Array Oper} (h : okDraw ops = true) : DrawOK ops := by
  unfold okDraw at h
  simp only [Bool.and_eq_true] at h
  obtain ⟨h1, h2⟩ := h
  constructor
  · intro j o e ho he hb
    have hm : (o, j) ∈ ops.toList.zipIdx := by
      rw [List.mem_zipIdx_iff_getElem?]
      simpa using ho
    have := List.all_eq_true.1 h1 (o, j) hm
    have := List.all_eq_true.1 this e (by simpa using he)
    simp only [hb, Bool.not_true, Bool.false_or, decide_eq_true_eq] at this
    exact this
  · intro i j x y hij hx hy
    have hj : j < ops.size := by
      rcases Nat.lt_or_ge j ops.size with h | h
      · exact h
      · rw [Array.getElem?_eq_none h] at hy; cases hy
    have hm : (i, j) ∈ idxPairs ops.size := by
      unfold idxPairs
      rw [List.mem_flatMap]
      exact ⟨j, by simpa using hj, by simp; omega⟩
    have := List.all_eq_true.1 h2 (i, j) hm
    simp only [hx, hy, Bool.or_eq_true, Bool.and_eq_true] at this
    rcases this with h | ⟨⟨⟨a, b⟩, c⟩, d⟩
    · exact .inl h
    · refine .inr ⟨a, ?_, ?_, ?_⟩
      · rintro ⟨p, q⟩
        simp [p, q] at b
      · intro p q
        simpa [p, q] using c
      · intro p q
        simpa [p, q] using d

/-- What a ready operation and another one that is listed, or not, tell. -/
theorem ready_pairs {ops : Array Oper} (hd : DrawOK ops) {S : Nat → Bool} (hS : Closed ops S) {i : Nat} {o : Oper} (ho : ops[i]? = some o) (hi : S i = false) (hp : ∀ e ∈ o.after, Region.binds .any e = true → S e.on = true)
    {j : Nat} {y : Oper} (hy : ops[j]? = some y) (hne : j ≠ i) (hord : i < j → ((Region.before ops).getD j 0).testBit i = true) (hord2 : j < i → ((Region.before ops).getD i 0).testBit j = true) : S j = true ↔ j < i := by
  constructor
  · intro hj
    rcases Nat.lt_trichotomy j i with h | h | h
    · exact h
    · exact absurd h hne
    · have := closed_before hS hd.lt j y hy (hS j y hy hj) i (hord h)
      rw [hi] at this
      cases this
  · intro hlt
    exact closed_before hS hd.lt i o ho hp j (hord2 hlt)

/-! Counting what acts. -/
def cnt (ops : Array Oper) (S : Nat → Bool) : Nat → Nat
  | 0 => 0
  | n + 1 => cnt ops S n + (if S n = true ∧ ((ops[n]?).map actsB).getD false = true then 1 else 0)
theorem cnt_congr (ops : Array Oper) {S T : Nat → Bool} : ∀ (n : Nat), (∀ j, j < n → ((ops[j]?).map actsB).getD false = true → (S j = true ↔ T j = true)) → cnt ops S n = cnt ops T n
  | 0, _ => rfl
  | n + 1, h => by
    rw [cnt, cnt, cnt_congr ops n (fun j hj => h j (by omega))]
    congr 1
    by_cases ha : ((ops[n]?).map actsB).getD false = true
    · have := h n (by omega) ha
      simp only [ha, and_true, this]
    · simp [ha]
def upTo (k : Nat) : Nat → Bool := fun j => decide (j < k)
theorem cnt_upTo (ops : Array Oper) (k : Nat) : ∀ (n : Nat), k ≤ n → cnt ops (upTo k) n = cnt ops (upTo k) k
  | 0, h => by have : k = 0 := by omega
               subst this; rfl
  | n + 1, h => by
    by_cases e : k = n + 1
    · subst e; rfl
    · rw [cnt, cnt_upTo ops k n (by omega)]
      have : upTo k n = false := by unfold upTo; simp; omega
      simp [this]
theorem cnt_full (ops : Array Oper) (k : Nat) : cnt ops (upTo k) k = cnt ops (fun _ => true) k := cnt_congr ops k fun j hj _ => by unfold upTo; simp [hj]
theorem cnt_mono (ops : Array Oper) (S : Nat → Bool) {a b : Nat} (h : a ≤ b) : cnt ops S a ≤ cnt ops S b := by
  induction b with
  | zero => have : a = 0 := by omega
            subst this; exact Nat.le_refl _
  | succ b ih =>
    by_cases e : a = b + 1
    · subst e; exact Nat.le_refl _
    · rw [cnt]; have := ih (by omega); omega

/-- Of what acts a downward closed set is a beginning. -/
theorem acts_prefix {ops : Array Oper} {X : Nat → Bool} (hX : ∀ p q, p < q → ((ops[p]?).map actsB).getD false = true → ((ops[q]?).map actsB).getD false = true → X q = true → X p = true) :
    ∀ (m : Nat), ∃ j, j ≤ m ∧ ∀ q, q < m → ((ops[q]?).map actsB).getD false = true → (X q = true ↔ q < j)
  | 0 => ⟨0, Nat.le_refl _, fun q hq => by omega⟩
  | m + 1 => by
    obtain ⟨j, hj, h⟩ := acts_prefix hX m
    by_cases ha : ((ops[m]?).map actsB).getD false = true ∧ X m = true
    · refine ⟨m + 1, Nat.le_refl _, fun q hq hqa => ⟨fun _ => hq, fun _ => ?_⟩⟩
      by_cases e : q = m
      · subst e; exact ha.2
      · exact hX q m (by omega) hqa ha.1 ha.2
    · refine ⟨j, by omega, fun q hq hqa => ?_⟩
      by_cases e : q = m
      · subst e
        constructor
        · intro hx; exact absurd ⟨hqa, hx⟩ ha
        · intro hlt; omega
      · exact h q (by omega) hqa
theorem actsAhead_cnt (ops : Array Oper) (i : Nat) : actsAhead ops i = cnt ops (fun j => ((Region.before ops).getD i 0).testBit j) ops.size := by
  unfold actsAhead
  generalize ops.size = n
  induction n with
  | zero => rfl
  | succ n ih =>
    rw [List.range_succ, List.filter_append, List.length_append, ih, cnt]
    congr 1
    by_cases h : ((Region.before ops).getD i 0).testBit n = true ∧ ((ops[n]?).map actsB).getD false = true
    · rw [if_pos h, List.filter_cons_of_pos (by rw [h.1, h.2]; rfl)]
      rfl
    · rw [if_neg h]
      have : (((Region.before ops).getD i 0).testBit n && ((ops[n]?).map actsB).getD false) = false := by
        rw [Bool.eq_false_iff]
        intro hh
        simp only [Bool.and_eq_true] at hh
        exact h hh
      rw [List.filter_cons_of_neg (by rw [this]; simp)]
      rfl
end Go.Proofs.Ytcdeeppiljcddaa.AM
