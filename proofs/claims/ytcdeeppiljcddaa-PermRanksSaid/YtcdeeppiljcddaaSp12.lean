/- The law PermEnds, walked. Conditions: none. -/
import Derived.Test.YtcdeeppiljcddaaSp11
namespace Go.Proofs.Ytcdeeppiljcddaa.AM
open Go
section
variable {h h0 : Hp}
/-- The number below 13 that stands for n. -/
theorem thirteen (n : Int) : ∃ m : Nat, m ≤ 12 ∧ Int.tmod (IntKind.i64.wrap (Int.tmod n 13 + 13)) 13 = (m : Int) := by
  have h1 : Int.tmod n 13 < 13 := Int.tmod_lt_of_pos n (by omega)
  have h2 : -13 < Int.tmod n 13 := by
    have h3 : Int.tmod (-n) 13 < 13 := Int.tmod_lt_of_pos (-n) (by omega)
    rw [Int.neg_tmod] at h3
    omega
  rw [wrap_in (by omega) (by omega)]
  obtain ⟨q, hq⟩ : ∃ q : Nat, Int.tmod n 13 + 13 = q := ⟨(Int.tmod n 13 + 13).toNat, by omega⟩
  rw [hq]
  exact ⟨q % 13, by omega, rfl⟩
def lastL (m : Nat) : List Int := (List.range m).map fun i : Nat => (m : Int) - 1 - (i : Int)
def onesL (m : Nat) : List (List Int) := (List.range m).map fun i : Nat => [(i : Int)]
theorem ends_facts : ∀ m : Nat, m < 13 → isOrd (upto m) = true ∧ rankL (upto m) = 0 ∧ oddL (upto m) = false ∧ cyclesL (upto m) = onesL m ∧ nthL m 0 = upto m ∧ nthE m 0 = 0 ∧
    isOrd (lastL m) = true ∧ nextL (lastL m) = lastL m ∧ nextB (lastL m) = false ∧ rankL (lastL m) + 1 = fact m := by decide +kernel

theorem last_loop {lo : Nat} (hlo : h0.next ≤ lo) {a : Option Addr} {n c : Nat} (up : Bool) (hn : n ≤ 12) :
    ∀ (j k : Nat) (h : Hp) (cs : List Value), j + k = n → Mine h lo a n c cs → cs.take k = intCells ((lastL n).take k) → Keeps h0 h →
      ∃ h', L10_18 (n : Int) up a n c (n : Int) (k : Int) h = L10_18 (n : Int) up a n c (n : Int) (n : Int) h' ∧ Keeps h0 h' ∧ Mine h' lo a n c (intCells (lastL n)) := by
  have hll : (lastL n).length = n := by simp [lastL]
  intro j
  induction j with
  | zero =>
    intro k h cs hk hm ht hkp
    have hl := hm.len
    rw [List.take_of_length_le (by omega), List.take_of_length_le (by omega)] at ht
    have : k = n := by omega
    subst this
    exact ⟨h, rfl, hkp, ht ▸ hm⟩
  | succ j ih =>
    intro k h cs hk hm ht hkp
    have hl := hm.len
    have hkc : k < cs.length := by omega
    obtain ⟨h', s1, s2, s3, _⟩ := hm.st hkc (v := .int .i64 ((n : Int) - 1 - (k : Int))) rfl
    rw [L10_18_eq, decide_eq_true (by omega), cond_true, hm.at hkc, wrap_in (x := (n : Int) - 1) (by omega) (by omega), wrap_in (x := (n : Int) - 1 - (k : Int)) (by omega) (by omega), s1, wrap_nat (by omega)]
    refine ih (k + 1) h' _ (by omega) s2 ?_ (s3 _ hkp hlo)
    rw [take_set_succ hkc, ht, List.take_succ_eq_append_getElem (by omega), intCells_append]
    simp [lastL, intCells]
theorem ones_loop {a : Option Addr} {n c : Nat} (m : Nat) (hm : m ≤ 12) (up : Bool) (hok : HpOk h0) (hs : Lists h0 a n c (onesL m)) :
    ∀ (j k : Nat) (h : Hp), j + k = m → Keeps h0 h → ∃ h', L10_11 (m : Int) up a n c (n : Int) (k : Int) h = L10_11 (m : Int) up a n c (n : Int) (n : Int) h' ∧ Keeps h0 h' := by
  have hl := hs.len
  have hol : (onesL m).length = m := by simp [onesL]
  intro j
  induction j with
  | zero =>
    intro k h hk hkp
    have : k = n := by omega
    subst this
    exact ⟨h, rfl, hkp⟩
  | succ j ih =>
    intro k h hk hkp
    have hs1 := Lists.keeps hok hkp hs
    obtain ⟨b, nb, d, e1, e2⟩ := hs1.get (i := k) (by omega)
    have hk1 : Keeps h (h.alloc [.int .i64 (k : Int)] 1 []) := keeps_one hkp.ok _ 1
    have i1 : Ints (h.alloc [.int .i64 (k : Int)] 1 []) (some ⟨h.next, 0, none⟩) 1 0 [(k : Int)] := lit_ints hkp.ok [(k : Int)]
    have e3 := e2.keeps hkp.ok hk1
    have e4 : (onesL m)[k]'(by omega) = [(k : Int)] := by simp [onesL]
    rw [e4] at e3
    have nbl := e3.len
    rw [L10_11_eq, decide_eq_true (by omega), cond_true, hs1.at (by omega), ldSl_of e1]
    simp only [lt]
    rw [equal_spec e3 i1 (by rw [nbl]; simp), runC_some, asBool_mk]
    simp only [decide_true, Bool.not_true, cond_false]
    rw [wrap_nat (by omega)]
    exact ih (k + 1) _ (by omega) (hkp.trans hk1)
theorem ends_spec (hok : HpOk h) (n : Int) : ∃ h', run 10 [.int .i64 n] h = some (.bool true, h') := by
  rw [eq10]
  obtain ⟨m, hm, he⟩ := thirteen n
  rw [he]
  obtain ⟨f1, f2, f3, f4, f5, f6, f7, f8, f9, f10⟩ := ends_facts m (by omega)
  obtain ⟨h1, e1, k1⟩ := live_spec hok
  rw [e1, runC_some, asBool_mk]
  obtain ⟨h2, a2, n2, c2, k2, m2, e2⟩ := runC_gives (R := Value × Hp) (plain_spec k1.ok (m : Int))
  rw [plainE_ok hm] at e2
  rw [plainL_ok hm] at m2
  rw [e2 (fun a n c x h => _)]
  have i2 := m2.ints k2.ok
  rw [rank_spec i2, f2, ordE_ok f1, runC_i _ _ _ (fun y x h => _)]
  obtain ⟨h3, e3, k3⟩ := odd_spec k2.ok i2
  rw [e3, f3, ordE_ok f1, runC_b _ _ _ (fun y x h => _)]
  have i3 := i2.keeps k2.ok k3
  obtain ⟨h4, a4, n4, c4, k4, m4, e4⟩ := runC_givesL (R := Value × Hp) (cycles_spec k3.ok i3)
  rw [ordE_ok f1] at e4
  rw [f4] at m4
  rw [e4 (fun a n c x h => _)]
  have i4 := i3.keeps k3.ok k4
  obtain ⟨h5, a5, n5, c5, k5, m5, e5⟩ := runC_gives (R := Value × Hp) (nth_spec k4.ok (m : Int) 0)
  rw [f6] at e5
  rw [f5] at m5
  rw [e5 (fun a n c x h => _)]
  simp only [decide_true, Bool.not_true, cond_false]
  have i5 := i4.keeps k4.ok k5
  have l5 := Lists.keeps k4.ok k5 m4
  have n4l := m4.len
  have hol : (onesL m).length = m := by simp [onesL]
  have im5 := m5.ints k5.ok
  have n5l := im5.len
  rw [upto_length] at n5l
  have e0 : ((0 : Nat) : Int) = 0 := rfl
  rw [e0]
  simp only [decide_true, Bool.not_true, cond_false]
  rw [decide_eq_true (by omega), Bool.not_true, cond_false, equal_spec im5 i5 (by omega), runC_some, asBool_mk]
  simp only [decide_true, Bool.not_true, cond_false]
  obtain ⟨h6, o1, o2⟩ := ones_loop m hm true k5.ok l5 m 0 h5 (by omega) (Keeps.refl k5.ok)
  have o1' : L10_11 (m : Int) true a4 n4 c4 (n4 : Int) 0 h5 = _ := o1
  rw [o1', L10_11_eq, decide_eq_false (by omega), cond_false]
  obtain ⟨h7, p1, p2, p3⟩ := mk_mine (h := h6) (z := .int .i64 0) rfl (bytes := 8) (n := m) (by omega)
  rw [p1]
  have k7 : Keeps h6 h7 := p3 h6 (Keeps.refl o2.ok)
  obtain ⟨h8, q1, q2, q3⟩ := last_loop (h0 := h6) (Nat.le_refl _) true hm m 0 h7 _ (by omega) p2 (by simp [intCells]) k7
  have q1' : L10_18 (m : Int) true (some ⟨h6.next, 0, none⟩) m 0 (m : Int) 0 h7 = _ := q1
  rw [q1', L10_18_eq, decide_eq_false (by omega), cond_false]
  have i8 := q3.ints q2.ok
  obtain ⟨h9, a9, n9, c9, k9, m9, e9⟩ := runC_givesN (R := Value × Hp) (next_spec q2.ok i8)
  rw [f9, ordE_ok f7] at e9
  rw [f8] at m9
  rw [e9 (fun a n c b x h => _)]
  have i9 := i8.keeps q2.ok k9
  rw [rank_spec i9, ordE_ok f7, runC_i _ _ _ (fun y x h => _)]
  have hf := fact_mono hm
  rw [fact12] at hf
  have e10 : IntKind.i64.wrap (((rankL (lastL m) : Nat) : Int) + 1) = (fact m : Int) := by rw [wrap_nat (by omega), f10]
  rw [e10]
  obtain ⟨hA, aA, nA, cA, kA, mA, eA⟩ := runC_gives (R := Value × Hp) (nth_spec k9.ok (m : Int) (fact m : Int))
  have hne : nthE (m : Int) (fact m : Int) = 3 := by
    unfold nthE
    rw [if_pos (by omega), if_neg (by rw [Int.toNat_natCast]; omega)]
  rw [hne] at eA
  rw [eA (fun a n c x h => _)]
  have mA9 := (m9.keeps k9.ok kA).ints kA.ok
  have n9l := mA9.len
  have hll : (lastL m).length = m := by simp [lastL]
  simp only [decide_true, cond_true, Bool.not_false]
  rw [equal_spec mA9 (i9.keeps k9.ok kA) (by omega), runC_some, asBool_mk]
  simp only [decide_true, cond_true]
  exact ⟨_, rfl⟩
end
end Go.Proofs.Ytcdeeppiljcddaa.AM
