/- Orders' ranks: the next order has the next rank; the last one has none. Conditions: none. -/
import Derived.Test.YtcdeeppiljcddaaMa2
namespace Go.Proofs.Ytcdeeppiljcddaa.AM
open Go

theorem at_mid {p q : List Int} {x : Int} : atL (p ++ x :: q) (p.length : Int) = x := by
  rw [atL_eq (by rw [List.length_append, List.length_cons]; omega)]
  simp
theorem swap_parts (P M Q : List Int) (a b : Int) : swapL (P ++ a :: (M ++ b :: Q)) P.length (P.length + 1 + M.length) = P ++ b :: (M ++ a :: Q) := by
  have e1 : P ++ a :: (M ++ b :: Q) = (P ++ a :: M) ++ b :: Q := by simp
  have h1 : atL (P ++ a :: (M ++ b :: Q)) (P.length : Int) = a := at_mid
  have h2 : atL (P ++ a :: (M ++ b :: Q)) ((P.length + 1 + M.length : Nat) : Int) = b := by
    rw [e1]
    have : P.length + 1 + M.length = (P ++ a :: M).length := by rw [List.length_append, List.length_cons]; omega
    rw [this]
    exact at_mid
  unfold swapL
  rw [h1, h2, List.set_append_right _ _ (Nat.le_refl _), Nat.sub_self, List.set_cons_zero]
  have e2 : P ++ b :: (M ++ b :: Q) = (P ++ b :: M) ++ b :: Q := by simp
  have e3 : P.length + 1 + M.length = (P ++ b :: M).length := by rw [List.length_append, List.length_cons]; omega
  rw [e2, e3, List.set_append_right _ _ (Nat.le_refl _), Nat.sub_self, List.set_cons_zero]
  simp
theorem revRun_parts (o : Nat) : ∀ (f i e : Nat) (P M Q : List Int), P.length = o + i → M.length + i = e → e ≤ i + f → revRun o f i e (P ++ (M ++ Q)) = P ++ (M.reverse ++ Q)
  | 0, i, e, P, M, Q, h1, h2, h3 => by
    have : M = [] := List.length_eq_zero_iff.1 (by omega)
    subst this
    rfl
  | f + 1, i, e, P, M, Q, h1, h2, h3 => by
    unfold revRun
    by_cases h4 : i + 1 < e
    · rw [if_pos h4]
      obtain ⟨a, M1, rfl⟩ : ∃ a M1, M = a :: M1 := by
        cases M with
        | nil => simp at h2; omega
        | cons a M1 => exact ⟨a, M1, rfl⟩
      rw [List.length_cons] at h2
      have hne : M1 ≠ [] := fun h => by subst h; simp at h2; omega
      obtain ⟨M2, b, rfl⟩ : ∃ M2 b, M1 = M2 ++ [b] := ⟨M1.dropLast, M1.getLast hne, (List.dropLast_concat_getLast hne).symm⟩
      rw [List.length_append, List.length_singleton] at h2
      have e1 : P ++ ((a :: (M2 ++ [b])) ++ Q) = P ++ a :: (M2 ++ b :: Q) := by simp
      have e2 : o + i = P.length := h1.symm
      have e3 : o + (e - 1) = P.length + 1 + M2.length := by omega
      rw [e1, e2, e3, swap_parts]
      have e4 : P ++ b :: (M2 ++ a :: Q) = (P ++ [b]) ++ (M2 ++ (a :: Q)) := by simp
      rw [e4, revRun_parts o f (i + 1) (e - 1) (P ++ [b]) M2 (a :: Q) (by rw [List.length_append, List.length_singleton]; omega) (by omega) (by omega)]
      simp
    · rw [if_neg h4]
      have : M.length ≤ 1 := by omega
      match M, this with
      | [], _ => rfl
      | [a], _ => rfl
theorem descI_none {l : List Int} : ∀ {j : Nat}, descI l j = none → ∀ q, q < j → atL l ((q + 1 : Nat) : Int) < atL l (q : Int)
  | 0, _, q, hq => by omega
  | j + 1, h, q, hq => by
    unfold descI at h
    split at h
    · rename_i h1
      by_cases he : q = j
      · rw [he]; exact h1
      · exact descI_none h q (by omega)
    · cases h
theorem descI_some {l : List Int} : ∀ {j i : Nat}, descI l j = some i → ¬ (atL l ((i + 1 : Nat) : Int) < atL l (i : Int)) ∧ ∀ q, i < q → q < j → atL l ((q + 1 : Nat) : Int) < atL l (q : Int)
  | 0, i, h => by cases h
  | j + 1, i, h => by
    unfold descI at h
    split at h
    · rename_i h1
      obtain ⟨h2, h3⟩ := descI_some h
      refine ⟨h2, fun q hq hqj => ?_⟩
      by_cases he : q = j
      · rw [he]; exact h1
      · exact h3 q hq (by omega)
    · rename_i h1
      cases h
      exact ⟨h1, fun q hq hqj => by omega⟩
theorem descK_spec {l : List Int} {x : Int} {i : Nat} (hi : ¬ (atL l (i : Int) < x)) : ∀ (k : Nat), i ≤ k → i ≤ descK l x k ∧ ¬ (atL l (descK l x k : Nat) < x) ∧ ∀ q, descK l x k < q → q ≤ k → atL l (q : Int) < x
  | 0, hk => by
    have : i = 0 := by omega
    subst this
    exact ⟨Nat.le_refl _, hi, fun q h1 h2 => by omega⟩
  | k + 1, hk => by
    unfold descK
    by_cases h1 : atL l ((k + 1 : Nat) : Int) < x
    · rw [if_pos h1]
      have hne : i ≠ k + 1 := fun he => hi (he ▸ h1)
      obtain ⟨h2, h3, h4⟩ := descK_spec hi k (by omega)
      refine ⟨h2, h3, fun q hq hqk => ?_⟩
      by_cases he : q = k + 1
      · rw [he]; exact h1
      · exact h4 q hq (by omega)
    · rw [if_neg h1]
      exact ⟨hk, h1, fun q hq hqk => by omega⟩
theorem pairwise_gt {l : List Int} (h : ∀ q, (hq : q + 1 < l.length) → l[q + 1] < l[q]'(by omega)) : l.Pairwise (· > ·) := by
  rw [List.pairwise_iff_getElem]
  intro i j hi hj hij
  have : ∀ d, (hd : i + d + 1 < l.length) → l[i + d + 1] < l[i] := by
    intro d
    induction d with
    | zero => intro hd; exact h i hd
    | succ d ih =>
      intro hd
      have h1 := ih (by omega)
      have h2 := h (i + d + 1) (by omega)
      have : i + (d + 1) + 1 = i + d + 1 + 1 := by omega
      simp only [this]
      omega
  have h2 := this (j - i - 1) (by omega)
  have : i + (j - i - 1) + 1 = j := by omega
  simp only [this] at h2
  exact h2
theorem rk_desc : ∀ {l : List Int}, l.Pairwise (· > ·) → rk l + 1 = fact l.length
  | [], _ => rfl
  | x :: l, h => by
    rw [List.pairwise_cons] at h
    have h1 := rk_desc h.2
    have h2 : lessN x l = l.length := List.countP_eq_length.2 fun y hy => by simpa using h.1 y hy
    rw [rk, h2, List.length_cons, fact_succ, Nat.add_mul]
    omega
theorem rk_asc : ∀ {l : List Int}, l.Pairwise (· < ·) → rk l = 0
  | [], _ => rfl
  | x :: l, h => by
    rw [List.pairwise_cons] at h
    have h2 : lessN x l = 0 := List.countP_eq_zero.2 fun y hy => by have := h.1 y hy; simp; omega
    rw [rk, h2, rk_asc h.2, Nat.zero_mul]
theorem rk_prefix : ∀ (a : List Int) {s t : List Int}, s.Perm t → rk (a ++ s) + rk t = rk (a ++ t) + rk s
  | [], s, t, _ => by simp; omega
  | x :: a, s, t, h => by
    have h1 := rk_prefix a h
    have h2 : (a ++ s).Perm (a ++ t) := h.append_left a
    rw [List.cons_append, List.cons_append, rk, rk, lessN_perm h2, h2.length_eq]
    omega
theorem next_none {p : List Int} (hd : descI p (p.length - 1) = none) : rk p + 1 = fact p.length := by
  refine rk_desc (pairwise_gt fun q hq => ?_)
  have := descI_none hd q (by omega)
  rwa [atL_eq hq, atL_eq (by omega)] at this
theorem next_some {p : List Int} (hn : p.Nodup) {i : Nat} (hd : descI p (p.length - 1) = some i) :
    (nextRun p).1.Perm p ∧ rk (nextRun p).1 = rk p + 1 ∧ (nextRun p).2 = true := by
  have hi := descI_lt hd
  obtain ⟨h1, h2⟩ := descI_some hd
  have hne : i + 1 < p.length := by omega
  obtain ⟨k1, k2, k3⟩ := descK_spec (l := p) (x := atL p (i : Int)) (i := i + 1) h1 (p.length - 1) (by omega)
  have hk := descK_le (l := p) (x := atL p (i : Int)) (p.length - 1)
  unfold nextRun
  rw [hd]
  simp only
  generalize descK p (atL p (i : Int)) (p.length - 1) = k at k1 k2 k3 hk
  have hkl : k < p.length := by omega
  have hil : i < p.length := by omega
  rw [atL_eq hil, atL_eq hkl] at k2
  -- the parts
  obtain ⟨A, x, M, y, Q, hp, hA, hM⟩ : ∃ A x M y Q, p = A ++ x :: (M ++ y :: Q) ∧ A.length = i ∧ A.length + 1 + M.length = k := by
    refine ⟨p.take i, p[i], (p.drop (i + 1)).take (k - (i + 1)), p[k], p.drop (k + 1), ?_, by simp; omega, by simp; omega⟩
    have e1 : (p.drop (i + 1)).drop (k - (i + 1)) = p[k] :: p.drop (k + 1) := by
      rw [List.drop_drop]
      have : i + 1 + (k - (i + 1)) = k := by omega
      rw [this, List.drop_eq_getElem_cons hkl]
    rw [← e1, List.take_append_drop, ← List.drop_eq_getElem_cons hil, List.take_append_drop]
  have hpi : p[i] = x := by
    have := at_mid (p := A) (x := x) (q := M ++ y :: Q)
    rw [← hp, hA, atL_eq hil] at this
    exact this
  have hpk : p[k] = y := by
    have e1 : p = (A ++ x :: M) ++ y :: Q := by rw [hp]; simp
    have := at_mid (p := A ++ x :: M) (x := y) (q := Q)
    have e2 : (A ++ x :: M).length = k := by rw [List.length_append, List.length_cons]; omega
    rw [← e1, e2, atL_eq hkl] at this
    exact this
  rw [hpi, hpk] at k2
  have hn' := hn
  rw [hp, List.nodup_append] at hn'
  have hn2 := List.nodup_cons.1 hn'.2.1
  have hxy : x < y := by
    have : y ≠ x := fun he => hn2.1 (by rw [← he]; simp)
    omega
  -- the numbers behind are in descending order
  have hD : (M ++ y :: Q).Pairwise (· > ·) := by
    have e1 : M ++ y :: Q = p.drop (i + 1) := by
      rw [hp, ← hA]
      have : A.length + 1 = (A ++ [x]).length := by simp
      rw [this]
      have : A ++ x :: (M ++ y :: Q) = (A ++ [x]) ++ (M ++ y :: Q) := by simp
      rw [this, List.drop_left' rfl]
    rw [e1]
    refine pairwise_gt fun q hq => ?_
    rw [List.length_drop] at hq
    have := h2 (i + 1 + q) (by omega) (by omega)
    rw [atL_eq (by omega), atL_eq (by omega)] at this
    rw [List.getElem_drop, List.getElem_drop]
    exact this
  have hQ : ∀ z ∈ Q, z < x := by
    intro z hz
    obtain ⟨j, hj, rfl⟩ := List.mem_iff_getElem.1 hz
    have e1 : p = (A ++ x :: (M ++ [y])) ++ Q := by rw [hp]; simp
    have e2 : (A ++ x :: (M ++ [y])).length = k + 1 := by simp; omega
    have e3 : p[k + 1 + j]'(by rw [e1, List.length_append, e2]; omega) = Q[j] := by
      simp only [e1]
      rw [List.getElem_append_right (by omega)]
      simp only [e2]
      congr 1
      omega
    have hlen : k + 1 + j < p.length := by rw [e1, List.length_append, e2]; omega
    have := k3 (k + 1 + j) (by omega) (by omega)
    rw [atL_eq hlen, atL_eq hil, hpi, e3] at this
    exact this
  rw [List.pairwise_append] at hD
  obtain ⟨d1, d2, d3⟩ := hD
  rw [List.pairwise_cons] at d2
  have hM' : ∀ z ∈ M, y < z := fun z hz => d3 z hz y (List.mem_cons_self ..)
  -- behind the swap, too
  have hD2 : (M ++ x :: Q).Pairwise (· > ·) := by
    rw [List.pairwise_append, List.pairwise_cons]
    refine ⟨d1, ⟨fun z hz => hQ z hz, d2.2⟩, fun a ha b hb => ?_⟩
    have := hM' a ha
    rcases List.mem_cons.1 hb with rfl | hb
    · omega
    · have := hQ b hb; omega
  have hsw : swapL p i k = A ++ y :: (M ++ x :: Q) := by
    have := swap_parts A M Q x y
    rw [← hp, hA] at this
    rw [← this]
    congr 1
    omega
  have hlen : p.length = A.length + 1 + (M ++ x :: Q).length := by rw [hp]; simp; omega
  have hrev : revRun (i + 1) p.length 0 (p.length - (i + 1)) (swapL p i k) = A ++ y :: (M ++ x :: Q).reverse := by
    have e1 : A ++ y :: (M ++ x :: Q) = (A ++ [y]) ++ ((M ++ x :: Q) ++ []) := by simp
    rw [hsw, e1, revRun_parts (i + 1) p.length 0 (p.length - (i + 1)) (A ++ [y]) (M ++ x :: Q) [] (by simp; omega) (by omega) (by omega)]
    simp
  rw [hrev]
  have hperm : (x :: (M ++ y :: Q)).Perm (y :: (M ++ x :: Q).reverse) := by
    have p1 : (x :: (M ++ y :: Q)).Perm (x :: y :: (M ++ Q)) := List.Perm.cons x List.perm_middle
    have p2 : (y :: (M ++ x :: Q).reverse).Perm (y :: x :: (M ++ Q)) := List.Perm.cons y ((List.reverse_perm _).trans List.perm_middle)
    exact p1.trans ((List.Perm.swap y x _).trans p2.symm)
  have hpre := rk_prefix A hperm
  have hfull : (A ++ y :: (M ++ x :: Q).reverse).Perm p := by
    conv => rhs; rw [hp]
    exact (hperm.symm).append_left A
  refine ⟨hfull, ?_, trivial⟩
  have hasc : rk (M ++ x :: Q).reverse = 0 := rk_asc (by rw [List.pairwise_reverse]; exact hD2)
  have hdesc : rk (M ++ y :: Q) + 1 = fact (M ++ y :: Q).length := rk_desc (by
    rw [List.pairwise_append, List.pairwise_cons]; exact ⟨d1, d2, d3⟩)
  have hl2 : (M ++ x :: Q).length = (M ++ y :: Q).length := by simp
  have hx : lessN x (M ++ y :: Q) = Q.length := by
    unfold lessN
    rw [List.countP_append, List.countP_cons]
    have c1 : M.countP (fun z => decide (z < x)) = 0 := List.countP_eq_zero.2 fun z hz => by have := hM' z hz; simp; omega
    have c2 : Q.countP (fun z => decide (z < x)) = Q.length := List.countP_eq_length.2 fun z hz => by simpa using hQ z hz
    have c3 : decide (y < x) = false := decide_eq_false (by omega)
    rw [c1, c2, c3]; simp
  have hy : lessN y (M ++ x :: Q).reverse = Q.length + 1 := by
    rw [lessN_perm (List.reverse_perm _)]
    unfold lessN
    rw [List.countP_append, List.countP_cons]
    have c1 : M.countP (fun z => decide (z < y)) = 0 := List.countP_eq_zero.2 fun z hz => by have := hM' z hz; simp; omega
    have c2 : Q.countP (fun z => decide (z < y)) = Q.length := List.countP_eq_length.2 fun z hz => by have := hQ z hz; simp; omega
    have c3 : decide (x < y) = true := decide_eq_true hxy
    rw [c1, c2, c3]; simp
  have rS : rk (x :: (M ++ y :: Q)) = Q.length * fact (M ++ y :: Q).length + rk (M ++ y :: Q) := by rw [rk, hx]
  have rT : rk (y :: (M ++ x :: Q).reverse) = (Q.length + 1) * fact (M ++ y :: Q).length := by
    rw [rk, hy, hasc, List.length_reverse, hl2, Nat.add_zero]
  rw [Nat.add_mul] at rT
  conv => rhs; rw [hp]
  omega
end Go.Proofs.Ytcdeeppiljcddaa.AM
