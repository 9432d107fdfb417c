/- Specs of functions of perm: lists of lists held against one another, short lists. Conditions: none. -/
import Derived.Test.YtcdeeppiljcddaaSp4
namespace Go.Proofs.Ytcdeeppiljcddaa.AM
open Go
section
variable {h h0 : Hp}

/-! ### Lists that are written out -/
theorem lit_sl {α : Type} {E : Hp → Value → α → Prop} (hok : HpOk h) {cs : List Value} (h1 : oneCells cs = true) {l : List α} (hl : l.length = cs.length) (hE : ∀ i (hi : i < l.length), E (h.alloc cs 1 []) (cs[i]'(hl ▸ hi)) l[i]) :
    Sl E (h.alloc cs 1 []) (some ⟨h.next, 0, none⟩) cs.length 0 l :=
  (mine_alloc (Nat.le_refl h.next) h1 (par := []) (by simp) 0).sl (ok_alloc hok _ _ _) hl hE
theorem lit_ints (hok : HpOk h) (l : List Int) : Ints (h.alloc (intCells l) 1 []) (some ⟨h.next, 0, none⟩) l.length 0 l := by
  have := lit_sl (E := IntE .i64) hok (one_intCells l) (l := l) (by rw [intCells_length]) fun i hi => by simp [IntE, intCells]
  rwa [intCells_length] at this

/-! ### few -/
def LenE (_ : Hp) (v : Value) (m : Nat) : Prop := ∃ a c, v = .slice a m c
theorem few_loop {a : Option Addr} {n c : Nat} {ms : List Nat} (hs : Sl LenE h a n c ms) (hn : n ≤ 1000) :
    ∀ (j k : Nat), j + k = n → L12_2 a n c (n : Int) (k : Int) h = some (.bool ((ms.drop k).all fun m => decide (m ≤ 100)), h) := by
  have hl := hs.len
  intro j
  induction j with
  | zero =>
    intro k hk
    rw [L12_2_eq, decide_eq_false (by omega), cond_false, List.drop_of_length_le (by omega)]
    rfl
  | succ j ih =>
    intro k hk
    have hkl : k < ms.length := by omega
    obtain ⟨v, h1, b, d, h2⟩ := hs.cell hkl
    subst h2
    rw [L12_2_eq, decide_eq_true (by omega), cond_true, hs.at hkl, ldSl_of h1, List.drop_eq_getElem_cons hkl, List.all_cons]
    by_cases h3 : ms[k] ≤ 100
    · rw [decide_eq_false (by omega), cond_false, wrap_nat (by omega), ih (k + 1) (by omega), decide_eq_true h3, Bool.true_and]
    · rw [decide_eq_true (by omega), cond_true, decide_eq_false h3, Bool.false_and]
theorem few_spec {a : Option Addr} {n c : Nat} {ms : List Nat} (hs : Sl LenE h a n c ms) (hn : n ≤ 1000) :
    run 12 [.slice a n c] h = some (.bool (ms.all fun m => decide (m ≤ 100)), h) := by
  rw [eq12]
  have := few_loop hs hn n 0 (by omega)
  rw [List.drop_zero] at this
  exact this

/-! ### SameLists -/
theorem Lists.get {a : Option Addr} {n c : Nat} {l : List (List Int)} (hs : Lists h a n c l) {i : Nat} (hi : i < l.length) : ∃ b m d, h.cell (adr a i) = some (.slice b m d) ∧ Ints h b m d l[i] := by
  obtain ⟨v, h1, b, m, d, h2, h3⟩ := hs.cell hi
  subst h2
  exact ⟨b, m, d, h1, h3⟩
theorem same_inner {a b : Option Addr} {n m c d : Nat} {p q : List (List Int)} (ha : Lists h a n c p) (hb : Lists h b m d q) {i : Nat} (hi : i < p.length) (hiq : i < q.length) (hl : p[i].length = q[i].length) (hs : p[i].length ≤ 1000000) :
    ∀ (j k : Nat), j + k = p[i].length → L34_9 a n c b m d (i : Int) (n : Int) (i : Int) (p[i].length : Int) (k : Int) h =
      if p[i].drop k = q[i].drop k then L34_4 a n c b m d (n : Int) (IntKind.i64.wrap ((i : Int) + 1)) h else some (.bool false, h) := by
  obtain ⟨a1, n1, c1, x1, x2⟩ := ha.get hi
  obtain ⟨b1, m1, d1, y1, y2⟩ := hb.get hiq
  intro j
  induction j with
  | zero =>
    intro k hk
    rw [L34_9_eq, decide_eq_false (by omega), cond_false, List.drop_of_length_le (by omega), List.drop_of_length_le (by omega), if_pos rfl]
  | succ j ih =>
    intro k hk
    have hk1 : k < p[i].length := by omega
    have hk2 : k < q[i].length := by omega
    rw [L34_9_eq, decide_eq_true (by omega), cond_true, ha.at hi, ldSl_of x1, x2.get hk1, hb.at hiq, ldSl_of y1, y2.get hk2]
    have hd : p[i].drop k = q[i].drop k ↔ p[i][k] = q[i][k] ∧ p[i].drop (k + 1) = q[i].drop (k + 1) := by
      rw [List.drop_eq_getElem_cons hk1, List.drop_eq_getElem_cons hk2, List.cons.injEq]
    by_cases he : p[i][k] = q[i][k]
    · rw [decide_eq_true he, Bool.not_true, cond_false, wrap_nat (by omega), ih (k + 1) (by omega)]
      by_cases h2 : p[i].drop (k + 1) = q[i].drop (k + 1)
      · rw [if_pos h2, if_pos (hd.2 ⟨he, h2⟩)]
      · rw [if_neg h2, if_neg (fun hh => h2 (hd.1 hh).2)]
    · rw [decide_eq_false he, Bool.not_false, cond_true, if_neg (fun hh => he (hd.1 hh).1)]
theorem same_outer {a b : Option Addr} {n m c d : Nat} {p q : List (List Int)} (ha : Lists h a n c p) (hb : Lists h b m d q) (hl : p.length = q.length) (hn : n ≤ 1000000) (hs : ∀ x ∈ p, x.length ≤ 1000000) :
    ∀ (j k : Nat), j + k = n → L34_4 a n c b m d (n : Int) (k : Int) h = some (.bool (decide (p.drop k = q.drop k)), h) := by
  have hpn := ha.len
  intro j
  induction j with
  | zero =>
    intro k hk
    rw [L34_4_eq, decide_eq_false (by omega), cond_false, List.drop_of_length_le (by omega), List.drop_of_length_le (by omega)]
    simp
  | succ j ih =>
    intro k hk
    have hk1 : k < p.length := by omega
    have hk2 : k < q.length := by omega
    obtain ⟨a1, n1, c1, x1, x2⟩ := ha.get hk1
    obtain ⟨b1, m1, d1, y1, y2⟩ := hb.get hk2
    have hn1 := x2.len
    have hm1 := y2.len
    have hd : p.drop k = q.drop k ↔ p[k] = q[k] ∧ p.drop (k + 1) = q.drop (k + 1) := by
      rw [List.drop_eq_getElem_cons hk1, List.drop_eq_getElem_cons hk2, List.cons.injEq]
    rw [L34_4_eq, decide_eq_true (by omega), cond_true, ha.at hk1, ldSl_of x1, hb.at hk2, ldSl_of y1]
    by_cases h1 : n1 = m1
    · rw [decide_eq_true (by omega), Bool.not_true, cond_false, ha.at hk1, ldSl_of x1]
      have h2 := same_inner ha hb hk1 hk2 (by omega) (hs _ (List.getElem_mem hk1)) p[k].length 0 (by omega)
      rw [← hn1] at h2
      have h2' : L34_9 a n c b m d (k : Int) (n : Int) (k : Int) (n1 : Int) 0 h = _ := h2
      rw [h2', List.drop_zero, List.drop_zero]
      by_cases h3 : p[k] = q[k]
      · rw [if_pos h3, wrap_nat (by omega), ih (k + 1) (by omega)]
        have : p.drop k = q.drop k ↔ p.drop (k + 1) = q.drop (k + 1) := by rw [hd]; simp [h3]
        rw [decide_eq_decide.2 this]
      · rw [if_neg h3, decide_eq_false (fun hh => h3 (hd.1 hh).1)]
    · rw [decide_eq_false (by omega), Bool.not_false, cond_true, decide_eq_false (fun hh => by
        have := (hd.1 hh).1
        rw [this] at hn1
        omega)]
theorem same_spec {a b : Option Addr} {n m c d : Nat} {p q : List (List Int)} (ha : Lists h a n c p) (hb : Lists h b m d q) (hn : n ≤ 1000000) (hs : ∀ x ∈ p, x.length ≤ 1000000) :
    run 34 [.slice a n c, .slice b m d] h = some (.bool (decide (p = q)), h) := by
  have h1 := ha.len
  have h2 := hb.len
  rw [eq34]
  by_cases hl : n = m
  · rw [decide_eq_true (by omega), Bool.not_true, cond_false]
    have := same_outer ha hb (by omega) hn hs n 0 (by omega)
    rw [List.drop_zero, List.drop_zero] at this
    exact this
  · rw [decide_eq_false (by omega), Bool.not_false, cond_true, decide_eq_false (fun hh => by subst hh; omega)]
end
end Go.Proofs.Ytcdeeppiljcddaa.AM
