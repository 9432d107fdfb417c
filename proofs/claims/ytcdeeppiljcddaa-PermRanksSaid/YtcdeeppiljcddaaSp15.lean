/- The law PermOdd, walked. Conditions: none. -/
import Derived.Test.YtcdeeppiljcddaaSp14
import Derived.Test.YtcdeeppiljcddaaMa4
namespace Go.Proofs.Ytcdeeppiljcddaa.AM
open Go
theorem dec_cycL {p : List Int} (ho : isOrd p = true) : Dec p (cycL p) := ⟨ho, (cycL_ok ho).cyc, (cycL_ok ho).perm⟩
theorem odd_inv {p : List Int} (ho : isOrd p = true) : oddL p = decide (invN p % 2 = 1) ∧ evens (cycL p) % 2 = invN p % 2 := by
  have hle := ord_le ho
  have h1 := dec_parity p (cycL p) (dec_cycL ho) (upto p.length) (ord_upto hle) (upto_length _)
  rw [upto_pick ho, inv_asc (upto_sorted _), Nat.zero_add] at h1
  refine ⟨?_, h1.symm⟩
  unfold oddL oddC
  have hcl : cyclesL p = cycL p := if_pos ho
  rw [hcl, odd_fold, ← h1]
  simp
theorem odd_pick {p q : List Int} (hp : isOrd p = true) (hq : isOrd q = true) (hl : p.length = q.length) : oddL (pickL q p) = !(oddL p == oddL q) := by
  have h1 := dec_parity q (cycL q) (dec_cycL hq) p hp hl
  rw [(odd_inv (ord_pick hp hq hl.symm)).1, (odd_inv hp).1, (odd_inv hq).1]
  have h2 := (odd_inv hq).2
  rcases Nat.mod_two_eq_zero_or_one (invN p) with h3 | h3 <;> rcases Nat.mod_two_eq_zero_or_one (invN q) with h4 | h4
  · have : invN (pickL q p) % 2 = 0 := by omega
    rw [this, h3, h4]; rfl
  · have : invN (pickL q p) % 2 = 1 := by omega
    rw [this, h3, h4]; rfl
  · have : invN (pickL q p) % 2 = 1 := by omega
    rw [this, h3, h4]; rfl
  · have : invN (pickL q p) % 2 = 0 := by omega
    rw [this, h3, h4]; rfl
theorem odd_invL {p : List Int} (ho : isOrd p = true) : oddL (invL p) = oddL p := by
  have h1 := dec_parity p (cycL p) (dec_cycL ho) (invL p) (ord_inv ho) (invL_length p)
  rw [pick_inv ho, inv_asc (upto_sorted _)] at h1
  rw [(odd_inv (ord_inv ho)).1, (odd_inv ho).1]
  have h2 := (odd_inv ho).2
  exact decide_eq_decide.2 (by omega)
theorem odd_swap {p : List Int} (ho : isOrd p = true) {a b : Nat} (ha : a < p.length) (hb : b < p.length) (hab : a ≠ b) : isOrd (swapL p a b) = true ∧ oddL (swapL p a b) = !oddL p := by
  have hos : isOrd (swapL p a b) = true := ord_of_perm (by rw [swapL_length]; exact ord_le ho) (by rw [swapL_length]; exact (ord_perm ho).trans (swap_perm' ha hb hab).symm)
  refine ⟨hos, ?_⟩
  rw [(odd_inv hos).1, (odd_inv ho).1]
  have h1 := swap_inv (ord_nodup ho) hab ha hb
  rcases Nat.mod_two_eq_zero_or_one (invN p) with h3 | h3
  · have : invN (swapL p a b) % 2 = 1 := by omega
    rw [this, h3]; rfl
  · have : invN (swapL p a b) % 2 = 0 := by omega
    rw [this, h3]; rfl
/-- The number below n that stands for i. -/
theorem below {n : Nat} (hn : 0 < n) (hn2 : n ≤ 1000) (i : Int) : ∃ m : Nat, m < n ∧ Int.tmod (IntKind.i64.wrap (Int.tmod i (n : Int) + (n : Int))) (n : Int) = (m : Int) := by
  have h1 : Int.tmod i (n : Int) < n := Int.tmod_lt_of_pos i (by omega)
  have h2 : -(n : Int) < Int.tmod i (n : Int) := by
    have h3 : Int.tmod (-i) (n : Int) < n := Int.tmod_lt_of_pos (-i) (by omega)
    rw [Int.neg_tmod] at h3
    omega
  rw [wrap_in (by omega) (by omega)]
  obtain ⟨q, hq⟩ : ∃ q : Nat, Int.tmod i (n : Int) + (n : Int) = q := ⟨(Int.tmod i (n : Int) + (n : Int)).toNat, by omega⟩
  rw [hq]
  exact ⟨q % n, Nat.mod_lt _ hn, rfl⟩
section
variable {h h0 : Hp}
theorem odd_law (hok : HpOk h) {pa qa : Option Addr} {pn pc qn qc : Nat} {p q : List Int} (hp : Ints h pa pn pc p) (hq : Ints h qa qn qc q) (i k : Int) :
    ∃ h', run 8 [.slice pa pn pc, .slice qa qn qc, .int .i64 i, .int .i64 k] h = some (.bool true, h') := by
  rw [eq8]
  have hpn := hp.len
  have hqn := hq.len
  obtain ⟨h1, e1, k1⟩ := live_spec hok
  rw [e1, runC_some, asBool_mk]
  simp only [lt]
  have e2 : run 12 [.slice (some ⟨h1.next, 0, none⟩) 2 0] (h1.alloc [.slice pa pn pc, .slice qa qn qc] 1 []) = _ := few_lit k1.ok (cs := [.slice pa pn pc, .slice qa qn qc]) (ms := [pn, qn]) rfl rfl (fun i hi => by
    match i, hi with
    | 0, _ => exact ⟨_, _, rfl⟩
    | 1, _ => exact ⟨_, _, rfl⟩) (by simp)
  rw [e2, runC_some, asBool_mk]
  have k2 : Keeps h (h1.alloc [.slice pa pn pc, .slice qa qn qc] 1 []) := keeps_alloc k1 _ _ _
  generalize h1.alloc [.slice pa pn pc, .slice qa qn qc] 1 [] = h2 at *
  have ip2 := hp.keeps hok k2
  have iq2 := hq.keeps hok k2
  cases hf : [pn, qn].all fun m => decide (m ≤ 100) with
  | false => exact ⟨h2, rfl⟩
  | true =>
    rw [Bool.not_true, cond_false, check_spec ip2, runC_some, asInt_mk]
    cases hpo : isOrd p with
    | false => exact ⟨h2, rfl⟩
    | true =>
      simp only [if_true, decide_true, Bool.not_true, cond_false]
      rw [check_spec iq2, runC_some, asInt_mk]
      cases hqo : isOrd q with
      | false => exact ⟨h2, rfl⟩
      | true =>
        simp only [if_true, decide_true, Bool.not_true, cond_false]
        by_cases l1 : p.length = q.length
        · rw [decide_eq_true (by omega), Bool.not_true, cond_false]
          have hle := ord_le hpo
          have opq := ord_pick hpo hqo l1.symm
          obtain ⟨h3, e3, k3⟩ := odd_spec k2.ok ip2
          rw [e3, ordE_ok hpo, runC_b _ _ _ (fun y x h => _)]
          have ip3 := ip2.keeps k2.ok k3
          have iq3 := iq2.keeps k2.ok k3
          obtain ⟨h4, e4, k4⟩ := odd_spec k3.ok iq3
          rw [e4, ordE_ok hqo, runC_b _ _ _ (fun y x h => _)]
          have ip4 := ip3.keeps k3.ok k4
          have iq4 := iq3.keeps k3.ok k4
          obtain ⟨h5, a5, n5, c5, k5, m5, e5⟩ := runC_gives (R := Value × Hp) (after_spec k4.ok ip4 iq4)
          rw [afterE_ok hpo hqo l1.symm] at e5
          rw [afterL_ok hpo hqo l1.symm] at m5
          rw [e5 (fun a n c x h => _)]
          have ip5 := ip4.keeps k4.ok k5
          obtain ⟨h6, e6, k6⟩ := odd_spec k5.ok (m5.ints k5.ok)
          rw [e6, ordE_ok opq, runC_b _ _ _ (fun y x h => _)]
          have ip6 := ip5.keeps k5.ok k6
          obtain ⟨h7, a7, n7, c7, k7, m7, e7⟩ := runC_gives (R := Value × Hp) (inverse_spec k6.ok ip6)
          rw [ordE_ok hpo] at e7
          rw [inverseL_ok hpo] at m7
          rw [e7 (fun a n c x h => _)]
          have ip7 := ip6.keeps k6.ok k7
          obtain ⟨h8, e8, k8⟩ := odd_spec k7.ok (m7.ints k7.ok)
          rw [e8, ordE_ok (ord_inv hpo), runC_b _ _ _ (fun y x h => _)]
          have ip8 := ip7.keeps k7.ok k8
          rw [odd_pick hpo hqo l1, odd_invL hpo]
          simp only [decide_true, Bool.not_true, cond_false, beq_self_eq_true]
          by_cases hn2 : pn < 2
          · rw [decide_eq_true (by omega), cond_true, cond_true]
            have : oddL p = false := by
              rw [(odd_inv hpo).1]
              have h0 : invN p = 0 := by
                match p, hpn with
                | [], _ => rfl
                | [x], _ => rfl
                | x :: y :: l, hpn => simp at hpn; omega
              rw [h0]; rfl
            rw [this]
            exact ⟨_, rfl⟩
          · rw [decide_eq_false (by omega), cond_false]
            simp only [needC]
            rw [decide_eq_false (by omega)]
            simp only [Bool.not_false, cond_true]
            obtain ⟨mi, hmi, hei⟩ := below (n := pn) (by omega) (by omega) i
            obtain ⟨mk, hmk, hek⟩ := below (n := pn) (by omega) (by omega) k
            rw [hei, hek]
            by_cases hik : mi = mk
            · rw [decide_eq_true (by omega), cond_true]
              exact ⟨_, rfl⟩
            · rw [decide_eq_false (by omega), cond_false]
              obtain ⟨h9, a9, c9, e9, k9, m9⟩ := copy_nil k8.ok ip8 (by omega)
              rw [e9]
              rcases m9 with ⟨g1, g2, g3, g4⟩ | ⟨r, g1, g2⟩
              · omega
              · have m9 : Mine h9 h8.next (some ⟨r, 0, none⟩) pn c9 (intCells p) := .inr ⟨r, rfl, g2⟩
                subst g1
                have a1 := fun (R : Type) (K : Addr → Option R) => at_off (R := R) (r := r) (o := 0) (m := pn) (i := mk) hmk K
                have a2 := fun (R : Type) (K : Addr → Option R) => at_off (R := R) (r := r) (o := 0) (m := pn) (i := mi) hmi K
                rw [Nat.zero_add] at a1 a2
                obtain ⟨hA, hB, s1, s2, s3, s4⟩ := m9.swap (a := mi) (b := mk) (by omega) (by omega)
                rw [a1, mine_ldOff m9 (cells_get (by omega)), a2, mine_ldOff m9 (cells_get (by omega)), a2, s1, a1, s2]
                have kB := s4 h8 k9 (Nat.le_refl _)
                obtain ⟨os, od⟩ := odd_swap hpo (a := mi) (b := mk) (by omega) (by omega) hik
                obtain ⟨hC, eC, kC⟩ := odd_spec kB.ok (s3.ints kB.ok)
                rw [eC, ordE_ok os, od, runC_b _ _ _ (fun y x h => _)]
                simp only [decide_true, cond_true]
                exact ⟨hC, by cases oddL p <;> rfl⟩
        · rw [decide_eq_false (by omega)]
          exact ⟨h2, rfl⟩
end
end Go.Proofs.Ytcdeeppiljcddaa.AM
