/- Specs of functions of perm: how many orders there are, the order of a rank. Conditions: none. -/
import Derived.Test.YtcdeeppiljcddaaSp5
import Derived.Test.YtcdeeppiljcddaaAm25
namespace Go.Proofs.Ytcdeeppiljcddaa.AM
open Go
section
variable {h h0 : Hp}

def fact : Nat → Nat
  | 0 => 1
  | n + 1 => (n + 1) * fact n
theorem fact_pos : ∀ n, 0 < fact n
  | 0 => Nat.one_pos
  | n + 1 => Nat.mul_pos (Nat.succ_pos n) (fact_pos n)
theorem fact_mono {m n : Nat} (h : m ≤ n) : fact m ≤ fact n := by
  induction n with
  | zero => have : m = 0 := by omega
            subst this; exact Nat.le_refl _
  | succ n ih =>
    by_cases he : m = n + 1
    · rw [he]; exact Nat.le_refl _
    · refine Nat.le_trans (ih (by omega)) ?_
      show fact n ≤ (n + 1) * fact n
      exact Nat.le_mul_of_pos_left _ (Nat.succ_pos n)
theorem fact12 : fact 12 = 479001600 := by decide
/-- The numbers of orders of less than k numbers; the others are 0. -/
def facts (k : Nat) : List Int := (List.range 13).map fun i => if i < k then (fact i : Int) else 0
theorem facts_get {k i : Nat} (hi : i < 13) : (facts k)[i]? = some (if i < k then (fact i : Int) else 0) := by
  unfold facts
  rw [List.getElem?_map, List.getElem?_range hi]
  rfl
theorem facts_set {k : Nat} (hk : k < 13) : (facts k).set k (fact k : Int) = facts (k + 1) := by
  apply List.ext_getElem?
  intro i
  by_cases hi : i < 13
  · by_cases he : k = i
    · subst he
      rw [List.getElem?_set_self (by simp [facts]; exact hk), facts_get hi, if_pos (by omega)]
    · rw [List.getElem?_set_ne he, facts_get hi, facts_get hi]
      congr 1
      by_cases h1 : i < k
      · rw [if_pos h1, if_pos (by omega)]
      · rw [if_neg h1, if_neg (by omega)]
  · rw [List.getElem?_eq_none (by simp [facts]; omega), List.getElem?_eq_none (by simp [facts]; omega)]
theorem fact_wrap {k : Nat} (hk : k < 12) : IntKind.i64.wrap (((k + 1 : Nat) : Int) * (fact k : Int)) = (fact (k + 1) : Int) := by
  have h1 : ((k + 1 : Nat) : Int) * (fact k : Int) = (fact (k + 1) : Int) := by rw [fact, Int.natCast_mul]
  have h2 := fact_mono (show k + 1 ≤ 12 by omega)
  rw [fact12] at h2
  rw [h1, wrap_in (by omega) (by omega)]
/-- The thirteen values. -/
def factV : Value := .agg #[.int .i64 1, .int .i64 1, .int .i64 2, .int .i64 6, .int .i64 24, .int .i64 120, .int .i64 720, .int .i64 5040, .int .i64 40320, .int .i64 362880, .int .i64 3628800, .int .i64 39916800, .int .i64 479001600]
theorem facts13 : intCells (facts 13) = [.int .i64 1, .int .i64 1, .int .i64 2, .int .i64 6, .int .i64 24, .int .i64 120, .int .i64 720, .int .i64 5040, .int .i64 40320, .int .i64 362880, .int .i64 3628800, .int .i64 39916800, .int .i64 479001600] := by
  have : facts 13 = [1, 1, 2, 6, 24, 120, 720, 5040, 40320, 362880, 3628800, 39916800, 479001600] := by decide
  rw [this]; rfl
theorem fact_loop {rt rf : Nat} (hrt : h0.next ≤ rt) (hrf : h0.next ≤ rf) (hne : rt ≠ rf) {zs : List Value} (hz : zs.length = 13) :
    ∀ (j k : Nat) (h : Hp), j + (k + 1) = 13 → Var h rf (intCells (facts (k + 1))) → Var h rt zs → Keeps h0 h →
      ∃ h', L40_3 (some ⟨rt, 0, none⟩) (some ⟨rf, 0, none⟩) ((k + 1 : Nat) : Int) h = some (factV, h') ∧ Keeps h0 h' := by
  intro j
  induction j with
  | zero =>
    intro k h hk hf ht hkp
    have : k + 1 = 13 := by omega
    rw [this] at hf ⊢
    rw [facts13] at hf
    rw [L40_3_eq, decide_eq_false (by omega), cond_false]
    simp only [someC]
    rw [hf.ldI (i := 0) rfl, hf.ldI (i := 1) rfl, hf.ldI (i := 2) rfl, hf.ldI (i := 3) rfl, hf.ldI (i := 4) rfl, hf.ldI (i := 5) rfl, hf.ldI (i := 6) rfl, hf.ldI (i := 7) rfl, hf.ldI (i := 8) rfl, hf.ldI (i := 9) rfl, hf.ldI (i := 10) rfl, hf.ldI (i := 11) rfl, hf.ldI (i := 12) rfl]
    obtain ⟨h', s1, s2, s3, _⟩ := ht.st (o := 0) (vs := [.int .i64 1, .int .i64 1, .int .i64 2, .int .i64 6, .int .i64 24, .int .i64 120, .int .i64 720, .int .i64 5040, .int .i64 40320, .int .i64 362880, .int .i64 3628800, .int .i64 39916800, .int .i64 479001600]) (by rw [hz]; decide) rfl
    have s1' : ∀ (R : Type) (K : Hp → Option R), h.stC (Addr.mk rt 0 none) _ K = K h' := s1
    rw [s1']
    have hsp : splice zs 0 [.int .i64 1, .int .i64 1, .int .i64 2, .int .i64 6, .int .i64 24, .int .i64 120, .int .i64 720, .int .i64 5040, .int .i64 40320, .int .i64 362880, .int .i64 3628800, .int .i64 39916800, .int .i64 479001600] = [.int .i64 1, .int .i64 1, .int .i64 2, .int .i64 6, .int .i64 24, .int .i64 120, .int .i64 720, .int .i64 5040, .int .i64 40320, .int .i64 362880, .int .i64 3628800, .int .i64 39916800, .int .i64 479001600] := by
      unfold splice
      rw [List.take_zero, List.drop_of_length_le (by rw [hz]; decide)]
      rfl
    rw [hsp] at s2
    rw [s2.ldI (i := 0) rfl, s2.ldI (i := 1) rfl, s2.ldI (i := 2) rfl, s2.ldI (i := 3) rfl, s2.ldI (i := 4) rfl, s2.ldI (i := 5) rfl, s2.ldI (i := 6) rfl, s2.ldI (i := 7) rfl, s2.ldI (i := 8) rfl, s2.ldI (i := 9) rfl, s2.ldI (i := 10) rfl, s2.ldI (i := 11) rfl, s2.ldI (i := 12) rfl]
    exact ⟨h', rfl, s3 _ hkp hrt⟩
  | succ j ih =>
    intro k h hk hf ht hkp
    have hc : ((k + 1 : Nat) : Int) - 1 = (k : Int) := by omega
    have hg : (intCells (facts (k + 1)))[k]? = some (.int .i64 (fact k)) := by
      unfold intCells
      rw [List.getElem?_map, facts_get (by omega), if_pos (by omega)]
      rfl
    rw [L40_3_eq, decide_eq_true (by omega), cond_true, hc, wrap_in (x := (k : Int)) (by omega) (by omega), Var.at (by omega), hf.ldI hg, Var.at (by omega), fact_wrap (by omega)]
    obtain ⟨h', s1, s2, s3, s4, _⟩ := hf.st (o := k + 1) (vs := [.int .i64 (fact (k + 1))]) (by simp [intCells, facts]; omega) rfl
    rw [s1, wrap_nat (by omega)]
    refine ih (k + 1) h' (by omega) ?_ (ht.frame fun b hb => by rw [s4 rt hne]; exact hb) (s3 _ hkp hrf)
    rw [splice_set (by simp [intCells, facts]; omega)] at s2
    have : (intCells (facts (k + 1))).set (k + 1) (.int .i64 (fact (k + 1))) = intCells (facts (k + 1 + 1)) := by
      rw [← facts_set (by omega : k + 1 < 13)]
      simp [intCells, List.map_set]
    rw [this] at s2
    exact s2
theorem facts_spec (hok : HpOk h) : ∃ h', run 40 [] h = some (factV, h') ∧ Keeps h h' := by
  rw [eq40]
  simp only [lt]
  have hk1 : Keeps h (h.alloc [.int .i64 0, .int .i64 0, .int .i64 0, .int .i64 0, .int .i64 0, .int .i64 0, .int .i64 0, .int .i64 0, .int .i64 0, .int .i64 0, .int .i64 0, .int .i64 0, .int .i64 0] 0 []) := keeps_alloc (Keeps.refl hok) _ _ _
  have v1 := var_alloc h (cs := [.int .i64 0, .int .i64 0, .int .i64 0, .int .i64 0, .int .i64 0, .int .i64 0, .int .i64 0, .int .i64 0, .int .i64 0, .int .i64 0, .int .i64 0, .int .i64 0, .int .i64 0]) rfl 0
  generalize h.alloc [.int .i64 0, .int .i64 0, .int .i64 0, .int .i64 0, .int .i64 0, .int .i64 0, .int .i64 0, .int .i64 0, .int .i64 0, .int .i64 0, .int .i64 0, .int .i64 0, .int .i64 0] 0 [] = h1 at *
  have hk2 : Keeps h1 (h1.alloc [.int .i64 0, .int .i64 0, .int .i64 0, .int .i64 0, .int .i64 0, .int .i64 0, .int .i64 0, .int .i64 0, .int .i64 0, .int .i64 0, .int .i64 0, .int .i64 0, .int .i64 0] 0 []) := keeps_alloc (Keeps.refl hk1.ok) _ _ _
  have v2 := var_alloc h1 (cs := [.int .i64 0, .int .i64 0, .int .i64 0, .int .i64 0, .int .i64 0, .int .i64 0, .int .i64 0, .int .i64 0, .int .i64 0, .int .i64 0, .int .i64 0, .int .i64 0, .int .i64 0]) rfl 0
  have v1' := v1.keeps hk1.ok hk2
  generalize h1.alloc [.int .i64 0, .int .i64 0, .int .i64 0, .int .i64 0, .int .i64 0, .int .i64 0, .int .i64 0, .int .i64 0, .int .i64 0, .int .i64 0, .int .i64 0, .int .i64 0, .int .i64 0] 0 [] = h2 at *
  obtain ⟨h3, s1, s2, s3, s4, _⟩ := v2.st (o := 0) (vs := [.int .i64 1, .int .i64 0, .int .i64 0, .int .i64 0, .int .i64 0, .int .i64 0, .int .i64 0, .int .i64 0, .int .i64 0, .int .i64 0, .int .i64 0, .int .i64 0, .int .i64 0]) (by decide) rfl
  have s1' : ∀ (R : Type) (K : Hp → Option R), h2.stC (Addr.mk h1.next 0 none) _ K = K h3 := s1
  rw [s1']
  have hlt : h.next < h1.next := by
    obtain ⟨b, g1, _⟩ := v1.blk
    exact (hk1.ok.new _ _ g1).2
  have hk02 : Keeps h h2 := hk1.trans hk2
  exact fact_loop (h0 := h) (Nat.le_refl _) (by omega) (by omega) (zs := [.int .i64 0, .int .i64 0, .int .i64 0, .int .i64 0, .int .i64 0, .int .i64 0, .int .i64 0, .int .i64 0, .int .i64 0, .int .i64 0, .int .i64 0, .int .i64 0, .int .i64 0]) rfl 12 0 h3 (by omega)
    (by
      have : intCells (facts (0 + 1)) = [.int .i64 1, .int .i64 0, .int .i64 0, .int .i64 0, .int .i64 0, .int .i64 0, .int .i64 0, .int .i64 0, .int .i64 0, .int .i64 0, .int .i64 0, .int .i64 0, .int .i64 0] := by
        have : facts (0 + 1) = [1, 0, 0, 0, 0, 0, 0, 0, 0, 0, 0, 0, 0] := by decide
        rw [this]; rfl
      rw [this]
      exact s2) (v1'.frame fun b hb => by rw [s4 _ (by omega)]; exact hb) (s3 _ hk02 (by omega))

/-! ### Nth -/
/-- The number at i + d comes to i; those between move up. -/
def moveL (l : List Int) (i d : Nat) : List Int := l.take i ++ atL l ((i + d : Nat) : Int) :: ((l.drop i).take d ++ l.drop (i + d + 1))
def nthRun (n : Nat) : Nat → Nat → List Int → List Int
  | 0, _, l => l
  | j + 1, k, l => nthRun n j (k % fact j) (moveL l (n - (j + 1)) (k / fact j))
theorem moveL_length {l : List Int} {i d : Nat} (h : i + d < l.length) : (moveL l i d).length = l.length := by
  unfold moveL
  simp only [List.length_append, List.length_take, List.length_cons, List.length_drop]
  omega
theorem move_cells {l : List Int} {i d : Nat} (hl : i + d < l.length) : (if d = 0 then intCells l else splice (intCells l) (i + 1) (((intCells l).drop i).take d)).set i (.int .i64 (atL l ((i + d : Nat) : Int))) = intCells (moveL l i d) := by
  have hs : (if d = 0 then intCells l else splice (intCells l) (i + 1) (((intCells l).drop i).take d)) = intCells (l.take (i + 1) ++ (l.drop i).take d ++ l.drop (i + 1 + d)) := by
    by_cases hd : d = 0
    · subst hd
      rw [if_pos rfl]
      simp
    · rw [if_neg hd]
      unfold splice intCells
      simp only [List.map_append, List.map_take, List.map_drop, List.length_take, List.length_drop, List.length_map]
      congr 2
      omega
  rw [hs]
  unfold moveL intCells
  rw [← List.map_set]
  congr 1
  rw [List.append_assoc, List.set_append_left _ _ (by simp; omega), List.take_succ_eq_append_getElem (by omega : i < l.length), List.set_append_right _ _ (by simp; omega)]
  have : i - (l.take i).length = 0 := by simp; omega
  rw [this]
  simp only [List.set_cons_zero, List.append_assoc, List.singleton_append]
  congr 3
  congr 1
  omega
theorem wrap_cast {m : Nat} (hm : m < 9223372036854775808) : IntKind.i64.wrap (m : Int) = (m : Int) := wrap_in (by omega) (by omega)
theorem nth_loop {lo r rf : Nat} (hlo : h0.next = lo) (hr : r < rf) {n lc : Nat} (hn : n ≤ 12) :
    ∀ (j i k : Nat) (h : Hp) (l : List Int), j + i = n → k < fact j → l.length = n → Mine h lo (some ⟨r, 0, none⟩) n lc (intCells l) → Var h rf (intCells (facts 13)) → Keeps h0 h →
      ∃ h', L26_8 (n : Int) (k : Int) (some ⟨r, 0, none⟩) n lc (some ⟨rf, 0, none⟩) (n : Int) (i : Int) h = some (.tuple #[.slice (some ⟨r, 0, none⟩) n lc, .int .i64 0], h') ∧ Keeps h0 h' ∧ Mine h' lo (some ⟨r, 0, none⟩) n lc (intCells (nthRun n j k l)) := by
  intro j
  induction j with
  | zero =>
    intro i k h l hj hk hl hm hv hkp
    exact ⟨h, by rw [L26_8_eq, decide_eq_false (by omega), cond_false], hkp, hm⟩
  | succ j ih =>
    intro i k h l hj hk hl hm hv hkp
    have hfp := fact_pos j
    have hfj : fact j ≤ 479001600 := by rw [← fact12]; exact fact_mono (by omega)
    have hd : k / fact j < j + 1 := (Nat.div_lt_iff_lt_mul hfp).2 hk
    generalize hdd : k / fact j = d at hd
    have hkk : k < 18446744073709551615 / 2 := by
      have : fact (j + 1) ≤ 479001600 := by rw [← fact12]; exact fact_mono (by omega)
      omega
    have e1 : IntKind.i64.wrap (IntKind.i64.wrap ((n : Int) - 1) - (i : Int)) = (j : Int) := by
      rw [wrap_in (x := (n : Int) - 1) (by omega) (by omega), wrap_in (by omega) (by omega)]; omega
    have e2 : Int.tdiv (k : Int) (fact j : Int) = (d : Int) := by rw [← hdd]; rfl
    have e3 : Int.tmod (k : Int) (fact j : Int) = ((k % fact j : Nat) : Int) := rfl
    have hg : (intCells (facts 13))[j]? = some (.int .i64 (fact j)) := by
      unfold intCells
      rw [List.getElem?_map, facts_get (by omega), if_pos (by omega)]
      rfl
    have e4 : IntKind.i64.wrap ((i : Int) + IntKind.i64.wrap (d : Int)) = ((i + d : Nat) : Int) := by
      rw [wrap_cast (by omega), ← Int.natCast_add, wrap_cast (by omega)]
    have hidl : i + d < l.length := by omega
    have hcl : (intCells l)[i + d]? = some (.int .i64 (atL l ((i + d : Nat) : Int))) := by
      rw [atL_eq hidl]; simp [intCells, hidl]
    rw [L26_8_eq, decide_eq_true (by omega), cond_true, e1, Var.at (by omega), hv.ldI hg, needC, decide_eq_false (by omega), Bool.not_false, cond_true, Var.at (by omega), hv.ldI hg, needC, decide_eq_false (by omega), Bool.not_false, cond_true, e2, e3, e4,
      hm.at (by rw [intCells_length]; exact hidl), hm.ldI hcl, wrap_nat (by omega), wrap_nat (by omega), hm.cut hkp.ok (by omega) (by omega), hm.cut hkp.ok (by omega) (by omega)]
    have hmin : Nat.min (i + d - i) (i + d + 1 - (i + 1)) = d := by
      have h1 : i + d - i = d := by omega
      have h2 : i + d + 1 - (i + 1) = d := by omega
      rw [h1, h2]; exact Nat.min_self d
    rw [hmin, hm.srcCut (by rw [intCells_length]; omega)]
    have hil : i < l.length := by omega
    -- the copy
    have copy : ∃ h1, (∀ (K : Hp → Option (Value × Hp)), putT h 1 (some ⟨r, i + 1, none⟩) d (((intCells l).drop i).take d) K = K h1) ∧ Mine h1 lo (some ⟨r, 0, none⟩) n lc (if d = 0 then intCells l else splice (intCells l) (i + 1) (((intCells l).drop i).take d)) ∧ Keeps h0 h1 ∧ Var h1 rf (intCells (facts 13)) := by
      by_cases h0d : d = 0
      · subst h0d
        exact ⟨h, fun K => rfl, by rw [if_pos rfl]; exact hm, hkp, hv⟩
      · have hvl : (((intCells l).drop i).take d).length = d := by
          rw [List.length_take, List.length_drop, intCells_length]; omega
        have hv1 : oneCells (((intCells l).drop i).take d) = true := by
          unfold oneCells
          rw [List.all_eq_true]
          intro x hx
          exact (List.all_eq_true.1 (one_intCells l)) x (List.mem_of_mem_drop (List.mem_of_mem_take hx))
        obtain ⟨h1, s1, s2, s3, s4, _⟩ := hm.sts (o := i + 1) (vs := ((intCells l).drop i).take d) (by rw [hvl, intCells_length]; omega) hv1
        refine ⟨h1, fun K => ?_, by rw [if_neg h0d]; exact s2, s3 _ hkp (by omega), hv.frame fun b hb => s4 rf b hb hr⟩
        unfold putT needC
        rw [decide_eq_false h0d, cond_false]
        simp only [hvl, Nat.mul_one, decide_true, cond_true]
        exact s1 _ K
    obtain ⟨h1, s1, s2, s3, s4⟩ := copy
    rw [s1]
    have hlen : (if d = 0 then intCells l else splice (intCells l) (i + 1) (((intCells l).drop i).take d)).length = l.length := by rw [← s2.len, hl]
    rw [s2.at (by rw [hlen]; exact hil)]
    obtain ⟨h2, t1, t2, t3, t4, _⟩ := s2.st (i := i) (by rw [hlen]; exact hil) (v := .int .i64 (atL l ((i + d : Nat) : Int))) rfl
    rw [t1]
    rw [move_cells hidl] at t2
    have := ih (i + 1) (k % fact j) h2 (moveL l i d) (by omega) (Nat.mod_lt _ hfp) (by rw [moveL_length hidl]; exact hl) t2 (s4.frame fun b hb => t4 r rf b rfl hb hr) (t3 _ s3 (by omega))
    have hi2 : n - (j + 1) = i := by omega
    unfold nthRun
    rw [hi2, hdd]
    exact this
def nthL (n k : Int) : List Int := if 0 ≤ n ∧ n ≤ 12 then if 0 ≤ k ∧ k < fact n.toNat then nthRun n.toNat n.toNat k.toNat (upto n.toNat) else [] else []
def nthE (n k : Int) : Int := if 0 ≤ n ∧ n ≤ 12 then if 0 ≤ k ∧ k < fact n.toNat then 0 else 3 else 1
theorem Gives.err {h1 : Hp} (hk : Keeps h h1) (e : Int) : Gives (some (.tuple #[.slice none 0 0, .int .i64 e], h1)) h [] e := ⟨h1, none, 0, 0, rfl, hk, Mine.nil _ _⟩
def zeros13 : List Value := [.int .i64 0, .int .i64 0, .int .i64 0, .int .i64 0, .int .i64 0, .int .i64 0, .int .i64 0, .int .i64 0, .int .i64 0, .int .i64 0, .int .i64 0, .int .i64 0, .int .i64 0]
theorem nth_spec (hok : HpOk h) (n k : Int) : Gives (run 26 [.int .i64 n, .int .i64 k] h) h (nthL n k) (nthE n k) := by
  rw [eq26]
  obtain ⟨h1, a1, n1, c1, k1, m1, e1⟩ := runC_gives (R := Value × Hp) (plain_spec hok n)
  rw [e1 (fun a_6 n_7 c_8 x_11 h_2 => _)]
  unfold nthL nthE
  by_cases hn : 0 ≤ n ∧ n ≤ 12
  · simp only [if_pos hn]
    have hpe : plainE n = 0 := if_pos hn
    have hpl : plainL n = upto n.toNat := if_pos hn
    rw [hpl] at m1
    obtain ⟨m, rfl⟩ : ∃ m : Nat, n = m := ⟨n.toNat, by omega⟩
    rw [Int.toNat_natCast] at m1 ⊢
    have hn1 : n1 = m := by have := m1.len; rw [intCells_length, upto_length] at this; exact this
    subst hn1
    obtain ⟨h2, f1, f2⟩ := facts_spec k1.ok
    have hagg : ∀ (R : Type) (K : List Value → Option R), asAggC factV K = K [.int .i64 1, .int .i64 1, .int .i64 2, .int .i64 6, .int .i64 24, .int .i64 120, .int .i64 720, .int .i64 5040, .int .i64 40320, .int .i64 362880, .int .i64 3628800, .int .i64 39916800, .int .i64 479001600] := fun _ _ => rfl
    rw [hpe]
    simp only [decide_true, Bool.not_true, cond_false]
    rw [f1, runC_some, hagg]
    simp only [consC_cons, asInt_mk, endC_nil, lt]
    have hk2 := k1.trans f2
    have hk3 : Keeps h2 (h2.alloc zeros13 0 []) := keeps_alloc (Keeps.refl f2.ok) _ _ _
    have v1 := var_alloc h2 (cs := zeros13) rfl 0
    have m2 := (m1.keeps k1.ok f2).keeps f2.ok hk3
    obtain ⟨h3, s1, s2, s3, s4, _⟩ := v1.st (o := 0) (vs := intCells (facts 13)) (by rw [facts13]; decide) (one_intCells _)
    have s1' : ∀ (R : Type) (K : Hp → Option R), (h2.alloc [.int .i64 0, .int .i64 0, .int .i64 0, .int .i64 0, .int .i64 0, .int .i64 0, .int .i64 0, .int .i64 0, .int .i64 0, .int .i64 0, .int .i64 0, .int .i64 0, .int .i64 0] 0 []).stC (Addr.mk h2.next 0 none) [.int .i64 1, .int .i64 1, .int .i64 2, .int .i64 6, .int .i64 24, .int .i64 120, .int .i64 720, .int .i64 5040, .int .i64 40320, .int .i64 362880, .int .i64 3628800, .int .i64 39916800, .int .i64 479001600] K = K h3 := by
      rw [facts13] at s1
      exact s1
    rw [s1']
    have hsp : splice zeros13 0 (intCells (facts 13)) = intCells (facts 13) := by rw [facts13]; rfl
    rw [hsp] at s2
    have hk4 : Keeps h h3 := s3 _ (hk2.trans hk3) (by have := hk2.next; omega)
    by_cases hk0 : k < 0
    · rw [decide_eq_true hk0, cond_true, if_neg (by omega), if_neg (by omega)]
      exact Gives.err hk4 3
    · rw [decide_eq_false hk0, cond_false]
      obtain ⟨q, rfl⟩ : ∃ q : Nat, k = q := ⟨k.toNat, by omega⟩
      have hg : (intCells (facts 13))[n1]? = some (.int .i64 (fact n1)) := by
        unfold intCells
        rw [List.getElem?_map, facts_get (by omega), if_pos (by omega)]
        rfl
      rw [Var.at (by omega), s2.ldI hg]
      by_cases hkf : fact n1 ≤ q
      · rw [decide_eq_true (by omega), cond_true, if_neg (by omega), if_neg (by omega)]
        exact Gives.err hk4 3
      · rw [decide_eq_false (by omega), cond_false, if_pos (by omega), if_pos (by omega), Int.toNat_natCast]
        rcases m2 with ⟨g1, g2, g3, g4⟩ | ⟨r, g1, g2⟩
        · subst g1 g2 g3
          refine ⟨h3, none, 0, 0, ?_, hk4, ?_⟩
          · rw [L26_8_eq]; rfl
          · show Mine h3 h.next none 0 0 (intCells (upto 0))
            exact Mine.nil _ _
        · subst g1
          have hr : r < h2.next := by
            have h5 := (m1.keeps k1.ok f2).lt f2.ok rfl
            omega
          have m3 : Mine h3 h.next (some ⟨r, 0, none⟩) n1 c1 (intCells (upto n1)) := Mine.frame (.inr ⟨r, rfl, g2⟩) fun q b hq hb => by
            cases hq
            rw [s4 _ (by omega)]
            exact hb
          obtain ⟨h4, t1, t2, t3⟩ := nth_loop (h0 := h) rfl hr (n := n1) (lc := c1) (by omega) n1 0 q h3 (upto n1) (by omega) (by omega) (upto_length _) m3 s2 hk4
          exact ⟨h4, _, _, _, t1, t2, t3⟩
  · simp only [if_neg hn]
    have hpe : plainE n = 1 := if_neg hn
    rw [hpe, decide_eq_false (by omega), Bool.not_false, cond_true]
    exact Gives.err k1 1
end
end Go.Proofs.Ytcdeeppiljcddaa.AM
