/- The law PermOne, walked. Conditions: none. -/
import Derived.Test.YtcdeeppiljcddaaSp12
import Derived.Test.YtcdeeppiljcddaaMa3
namespace Go.Proofs.Ytcdeeppiljcddaa.AM
open Go
theorem ord_of_upto {p : List Int} {m : Nat} (hm : m ≤ 12) (hp : p.Perm (upto m)) : isOrd p = true := by
  have hl : p.length = m := by rw [hp.length_eq, upto_length]
  exact ord_of_perm (by omega) (by rw [hl]; exact hp.symm)
theorem nthL_eq {m q : Nat} (hm : m ≤ 12) (hq : q < fact m) : nthL (m : Int) (q : Int) = unr m q (upto m) := by
  unfold nthL
  rw [if_pos (by omega), Int.toNat_natCast, if_pos (by omega), Int.toNat_natCast]
  have := nthRun_eq m q [] (upto m) (upto_length m) hq
  simpa using this
theorem nthL_ok {m q : Nat} (hm : m ≤ 12) (hq : q < fact m) : (nthL (m : Int) (q : Int)).Perm (upto m) ∧ rk (nthL (m : Int) (q : Int)) = q := by
  rw [nthL_eq hm hq]
  exact ⟨unr_perm m q _ (upto_length m) hq, rk_unr m q _ (upto_length m) hq (upto_sorted m)⟩
theorem next_cases {p : List Int} (ho : isOrd p = true) : (nextB p = false ∧ nextL p = p ∧ rk p + 1 = fact p.length) ∨ (nextB p = true ∧ (nextL p).Perm p ∧ rk (nextL p) = rk p + 1) := by
  unfold nextB nextL
  rw [if_pos ho, if_pos ho]
  cases hd : descI p (p.length - 1) with
  | none =>
    left
    have : nextRun p = (p, false) := by unfold nextRun; rw [hd]
    rw [this]
    exact ⟨rfl, rfl, next_none hd⟩
  | some i =>
    right
    obtain ⟨h1, h2, h3⟩ := next_some (ord_nodup ho) hd
    exact ⟨h3, h1, h2⟩
section
variable {h h0 : Hp}
theorem one_spec (hok : HpOk h) (n k : Int) : ∃ h', run 7 [.int .i64 n, .int .i64 k] h = some (.bool true, h') := by
  rw [eq7]
  obtain ⟨m, hm, he⟩ := thirteen n
  rw [he]
  obtain ⟨h1, e1, k1⟩ := live_spec hok
  rw [e1, runC_some, asBool_mk]
  obtain ⟨h2, a2, n2, c2, k2, m2, e2⟩ := runC_gives (R := Value × Hp) (nth_spec k1.ok (m : Int) k)
  rw [e2 (fun a n c x h => _)]
  have i2 := m2.ints k2.ok
  have n2l := i2.len
  by_cases hk : 0 ≤ k ∧ k < fact m
  · obtain ⟨q, rfl⟩ : ∃ q : Nat, k = q := ⟨k.toNat, by omega⟩
    have hq : q < fact m := by omega
    have hne : nthE (m : Int) (q : Int) = 0 := by
      unfold nthE
      rw [if_pos (by omega), Int.toNat_natCast, if_pos (by omega)]
    obtain ⟨hp, hr⟩ := nthL_ok hm hq
    have ho := ord_of_upto hm hp
    have hl : (nthL (m : Int) (q : Int)).length = m := by rw [hp.length_eq, upto_length]
    rw [hne]
    generalize nthL (m : Int) (q : Int) = p at *
    have hrl : rankL p = q := by rw [rankL_eq ho, hr]
    have hfm := fact_mono hm
    rw [fact12] at hfm
    simp only [decide_true, Bool.not_true, cond_false]
    rw [rank_spec i2, hrl, ordE_ok ho, runC_i _ _ _ (fun y x h => _)]
    obtain ⟨h3, a3, n3, c3, k3, m3, e3⟩ := runC_givesN (R := Value × Hp) (next_spec k2.ok i2)
    rw [ordE_ok ho] at e3
    rw [e3 (fun a n c b x h => _)]
    have i3 := i2.keeps k2.ok k3
    simp only [decide_true, Bool.not_true, cond_false]
    rw [decide_eq_true (by omega), Bool.not_true, cond_false, check_spec i3, runC_some, asInt_mk, ho]
    simp only [if_true, decide_true, Bool.not_true, cond_false]
    rw [wrap_nat (by omega)]
    rcases next_cases ho with ⟨c1, c2', c3'⟩ | ⟨c1, c2', c3'⟩
    · rw [c1, Bool.not_false, cond_true]
      rw [c2'] at m3
      obtain ⟨h4, a4, n4, c4, k4, m4, e4⟩ := runC_gives (R := Value × Hp) (nth_spec k3.ok (m : Int) ((q + 1 : Nat) : Int))
      have hne4 : nthE (m : Int) ((q + 1 : Nat) : Int) = 3 := by
        unfold nthE
        rw [if_pos (by omega), Int.toNat_natCast, if_neg (by rw [hl] at c3'; omega)]
      rw [hne4] at e4
      rw [e4 (fun a n c x h => _)]
      simp only [decide_true, cond_true]
      rw [equal_spec (i3.keeps k3.ok k4) ((m3.keeps k3.ok k4).ints k4.ok) (by omega), runC_some, asBool_mk]
      simp only [decide_true]
      exact ⟨_, rfl⟩
    · rw [c1, Bool.not_true, cond_false]
      have ho2 : isOrd (nextL p) = true := ord_of_upto hm (c2'.trans hp)
      have hrl2 : rankL (nextL p) = q + 1 := by rw [rankL_eq ho2, c3', hr]
      rw [rank_spec (m3.ints k3.ok), hrl2, ordE_ok ho2, runC_i _ _ _ (fun y x h => _)]
      simp only [decide_true, cond_true]
      exact ⟨_, rfl⟩
  · have hne : nthE (m : Int) k = 3 := by
      unfold nthE
      rw [if_pos (by omega), Int.toNat_natCast, if_neg hk]
    have hnl : nthL (m : Int) k = [] := by
      unfold nthL
      rw [if_pos (by omega), Int.toNat_natCast, if_neg hk]
    rw [hne, decide_eq_false (by omega), Bool.not_false, cond_true, cond_true, decide_eq_true rfl, cond_true]
    rw [hnl] at n2l
    simp at n2l
    rw [decide_eq_true (by omega)]
    exact ⟨_, rfl⟩
end
end Go.Proofs.Ytcdeeppiljcddaa.AM
