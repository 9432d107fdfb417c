/- Orders' ranks: the order of a rank has that rank. Conditions: none. -/
import Derived.Test.YtcdeeppiljcddaaSp11
namespace Go.Proofs.Ytcdeeppiljcddaa.AM
open Go

def rk : List Int → Nat
  | [] => 0
  | x :: l => lessN x l * fact l.length + rk l
theorem rankRun_eq : ∀ (l : List Int) (n i m : Nat), i + l.length = n → rankRun n i l m = m * fact l.length + rk l
  | [], n, i, m, _ => by simp [rankRun, fact, rk]
  | x :: l, n, i, m, h => by
    rw [List.length_cons] at h
    unfold rankRun
    rw [rankRun_eq l n (i + 1) _ (by omega), rk, List.length_cons, fact_succ]
    have : n - i = l.length + 1 := by omega
    rw [this, Nat.add_mul, Nat.mul_assoc, Nat.add_assoc]
theorem rankL_eq {p : List Int} (ho : isOrd p = true) : rankL p = rk p := by
  unfold rankL
  rw [if_pos ho, rankRun_eq p p.length 0 0 (by omega), Nat.zero_mul, Nat.zero_add]
theorem lessN_perm {x : Int} {l m : List Int} (h : l.Perm m) : lessN x l = lessN x m := h.countP_eq _
theorem lessN_le (x : Int) (l : List Int) : lessN x l ≤ l.length := List.countP_le_length
theorem rk_lt : ∀ (l : List Int), rk l < fact l.length
  | [] => by simp [rk, fact]
  | x :: l => by
    have h1 := rk_lt l
    have h2 := lessN_le x l
    rw [rk, List.length_cons, fact_succ]
    have : lessN x l * fact l.length ≤ l.length * fact l.length := Nat.mul_le_mul_right _ h2
    rw [Nat.add_mul]
    omega
/-- The numbers of a list, in the order of a rank. -/
def unr : Nat → Nat → List Int → List Int
  | 0, _, s => s
  | j + 1, k, s => atL s ((k / fact j : Nat) : Int) :: unr j (k % fact j) (s.eraseIdx (k / fact j))
theorem moveL_eq {a s : List Int} {d : Nat} (hd : d < s.length) : moveL (a ++ s) a.length d = a ++ atL s (d : Int) :: s.eraseIdx d := by
  unfold moveL
  have h1 : atL (a ++ s) ((a.length + d : Nat) : Int) = atL s (d : Int) := by
    rw [atL_eq (by rw [List.length_append]; omega), atL_eq hd, List.getElem_append_right (by omega)]
    simp
  rw [h1, List.take_left', List.drop_left' rfl]
  · congr 2
    rw [List.eraseIdx_eq_take_drop_succ]
    congr 1
    rw [List.drop_append, List.drop_of_length_le (by omega), List.nil_append]
    congr 1
    omega
  · rfl
theorem nthRun_eq : ∀ (j k : Nat) (a s : List Int), s.length = j → k < fact j → nthRun (a.length + j) j k (a ++ s) = a ++ unr j k s
  | 0, k, a, s, hs, _ => by
    have : s = [] := List.length_eq_zero_iff.1 hs
    subst this
    rfl
  | j + 1, k, a, s, hs, hk => by
    have hfp := fact_pos j
    have hd : k / fact j < s.length := by rw [hs]; exact (Nat.div_lt_iff_lt_mul hfp).2 hk
    unfold nthRun unr
    have e1 : a.length + (j + 1) - (j + 1) = a.length := by omega
    rw [e1, moveL_eq hd]
    have e2 : a ++ atL s ((k / fact j : Nat) : Int) :: s.eraseIdx (k / fact j) = (a ++ [atL s ((k / fact j : Nat) : Int)]) ++ s.eraseIdx (k / fact j) := by simp
    have e3 : a.length + (j + 1) = (a ++ [atL s ((k / fact j : Nat) : Int)]).length + j := by rw [List.length_append, List.length_singleton]; omega
    rw [e2, e3, nthRun_eq j (k % fact j) _ _ (by rw [List.length_eraseIdx_of_lt hd, hs]; rfl) (Nat.mod_lt _ hfp)]
    simp
theorem unr_perm : ∀ (j k : Nat) (s : List Int), s.length = j → k < fact j → (unr j k s).Perm s
  | 0, k, s, hs, _ => .refl _
  | j + 1, k, s, hs, hk => by
    have hfp := fact_pos j
    have hd : k / fact j < s.length := by rw [hs]; exact (Nat.div_lt_iff_lt_mul hfp).2 hk
    unfold unr
    refine (List.Perm.cons _ (unr_perm j (k % fact j) _ (by rw [List.length_eraseIdx_of_lt hd, hs]; rfl) (Nat.mod_lt _ hfp))).trans ?_
    rw [atL_eq hd, List.eraseIdx_eq_take_drop_succ]
    have h1 : s = s.take (k / fact j) ++ s[k / fact j] :: s.drop (k / fact j + 1) := by
      rw [← List.drop_eq_getElem_cons hd, List.take_append_drop]
    conv => rhs; rw [h1]
    exact List.perm_middle.symm
theorem less_sorted {s : List Int} (hs : s.Pairwise (· < ·)) {d : Nat} (hd : d < s.length) : lessN s[d] (s.eraseIdx d) = d := by
  have h1 : s = s.take d ++ s[d] :: s.drop (d + 1) := by
    rw [← List.drop_eq_getElem_cons hd, List.take_append_drop]
  have h2 := hs
  rw [h1, List.pairwise_append] at h2
  obtain ⟨_, h3, h4⟩ := h2
  rw [List.pairwise_cons] at h3
  rw [List.eraseIdx_eq_take_drop_succ]
  unfold lessN
  rw [List.countP_append]
  have e1 : (s.take d).countP (fun y => decide (y < s[d])) = d := by
    rw [List.countP_eq_length.2 (fun x hx => by have := h4 x hx s[d] (List.mem_cons_self ..); simpa using this), List.length_take]
    omega
  have e2 : (s.drop (d + 1)).countP (fun y => decide (y < s[d])) = 0 := by
    rw [List.countP_eq_zero]
    intro x hx
    have := h3.1 x hx
    simp
    omega
  rw [e1, e2]; rfl
theorem rk_unr : ∀ (j k : Nat) (s : List Int), s.length = j → k < fact j → s.Pairwise (· < ·) → rk (unr j k s) = k
  | 0, k, s, hs, hk, _ => by
    simp [fact] at hk
    simp [unr, hk]
    have : s = [] := List.length_eq_zero_iff.1 hs
    rw [this]; rfl
  | j + 1, k, s, hs, hk, hp => by
    have hfp := fact_pos j
    have hd : k / fact j < s.length := by rw [hs]; exact (Nat.div_lt_iff_lt_mul hfp).2 hk
    have hel : (s.eraseIdx (k / fact j)).length = j := by rw [List.length_eraseIdx_of_lt hd, hs]; rfl
    unfold unr
    rw [rk, rk_unr j (k % fact j) _ hel (Nat.mod_lt _ hfp) (hp.sublist (List.eraseIdx_sublist ..)), lessN_perm (unr_perm j (k % fact j) _ hel (Nat.mod_lt _ hfp)), atL_eq hd, less_sorted hp hd, (unr_perm j (k % fact j) _ hel (Nat.mod_lt _ hfp)).length_eq, hel]
    exact Nat.div_add_mod' k (fact j)
theorem upto_sorted (n : Nat) : (upto n).Pairwise (· < ·) := by
  unfold upto
  rw [List.pairwise_map]
  exact List.pairwise_lt_range.imp fun h => Int.ofNat_lt.2 h
/-- Two lists of the same numbers, of the same rank, are the same. -/
theorem rk_inj : ∀ {l m : List Int}, l.Perm m → l.Nodup → rk l = rk m → l = m
  | [], m, hp, _, _ => by rw [List.nil_perm.1 hp]
  | x :: l, [], hp, _, _ => by have := hp.length_eq; simp at this
  | x :: l, y :: m, hp, hn, hr => by
    have hlen := hp.length_eq
    rw [List.length_cons, List.length_cons] at hlen
    have hl : l.length = m.length := by omega
    have b1 := rk_lt l
    have b2 := rk_lt m
    rw [rk, rk, hl] at hr
    rw [hl] at b1
    have hfp := fact_pos m.length
    have e1 : lessN x l = lessN y m := by
      have h1 : (lessN x l * fact m.length + rk l) / fact m.length = lessN x l := by
        rw [Nat.add_comm, Nat.add_mul_div_right _ _ hfp, Nat.div_eq_of_lt b1, Nat.zero_add]
      have h2 : (lessN y m * fact m.length + rk m) / fact m.length = lessN y m := by
        rw [Nat.add_comm, Nat.add_mul_div_right _ _ hfp, Nat.div_eq_of_lt b2, Nat.zero_add]
      rw [← h1, ← h2, hr]
    have hx : ∀ z : Int, lessN z (x :: l) = lessN z (y :: m) := fun z => lessN_perm hp
    have hxx : lessN x (x :: l) = lessN x l := by unfold lessN; rw [List.countP_cons]; simp
    have hyy : lessN y (y :: m) = lessN y m := by unfold lessN; rw [List.countP_cons]; simp
    -- whichever is less has fewer below it
    have hlt : ∀ (a b : Int) (s : List Int), a < b → a ∈ s → lessN a s < lessN b s := by
      intro a b s hab has
      induction s with
      | nil => cases has
      | cons z s ih =>
        unfold lessN at ih ⊢
        rw [List.countP_cons, List.countP_cons]
        have hmono : s.countP (fun y => decide (y < a)) ≤ s.countP (fun y => decide (y < b)) := List.countP_mono_left fun w _ hw => by
          simp only [decide_eq_true_eq] at hw ⊢
          omega
        rcases List.mem_cons.1 has with rfl | has
        · simp [hab]; omega
        · have := ih has
          by_cases h1 : z < a
          · have h2 : z < b := by omega
            simp [h1, h2]; exact this
          · simp [h1]; omega
    have hxy : x = y := by
      rcases Int.lt_trichotomy x y with h | h | h
      · have := hlt x y (x :: l) h (List.mem_cons_self ..)
        rw [hx y, hyy, hxx] at this
        omega
      · exact h
      · have := hlt y x (y :: m) h (List.mem_cons_self ..)
        rw [← hx x, hxx, hyy] at this
        omega
    subst hxy
    rw [e1] at hr
    rw [rk_inj ((List.perm_cons x).1 hp) (List.nodup_cons.1 hn).2 (by omega)]
end Go.Proofs.Ytcdeeppiljcddaa.AM
