/- The law PermRanks, walked. Conditions: none. -/
import Derived.Test.YtcdeeppiljcddaaSp18
namespace Go.Proofs.Ytcdeeppiljcddaa.AM
open Go
section
variable {h h0 : Hp}
theorem nthL_length (n k : Int) : (nthL n k).length ≤ 12 := by
  by_cases hn : 0 ≤ n ∧ n ≤ 12
  · by_cases hk : 0 ≤ k ∧ k < fact n.toNat
    · obtain ⟨m, rfl⟩ : ∃ m : Nat, n = m := ⟨n.toNat, by omega⟩
      obtain ⟨q, rfl⟩ : ∃ q : Nat, k = q := ⟨k.toNat, by omega⟩
      rw [Int.toNat_natCast] at hk
      rw [(nthL_ok (m := m) (q := q) (by omega) (by omega)).1.length_eq, upto_length]
      omega
    · unfold nthL; rw [if_pos hn, if_neg hk]; simp
  · unfold nthL; rw [if_neg hn]; simp
theorem nextL_length (p : List Int) : (nextL p).length ≤ 12 := by
  cases ho : isOrd p with
  | false => unfold nextL; rw [ho]; simp
  | true =>
    have hle := ord_le ho
    rcases next_cases ho with ⟨_, c2, _⟩ | ⟨_, c2, _⟩
    · rw [c2]; exact hle
    · rw [c2.length_eq]; exact hle
theorem cyclesL_each (p : List Int) : ∀ c ∈ cyclesL p, c.length ≤ 1000000 := by
  intro c hc
  cases ho : isOrd p with
  | false => unfold cyclesL at hc; rw [ho] at hc; simp at hc
  | true =>
    have hle := ord_le ho
    have hcl : cyclesL p = cycL p := if_pos ho
    rw [hcl] at hc
    have h1 : c.length ≤ (cycL p).flatten.length := (List.sublist_flatten_of_mem hc).length_le
    rw [← (cycL_ok ho).perm.length_eq, upto_length] at h1
    omega
theorem ranks_spec (hok : HpOk h) {pa : Option Addr} {pn pc : Nat} {p : List Int} (hp : Ints h pa pn pc p) (n k : Int) :
    ∃ h', run 9 [.slice pa pn pc, .int .i64 n, .int .i64 k] h = some (.bool true, h') := by
  rw [eq9]
  have hpn := hp.len
  obtain ⟨h1, e1, k1⟩ := live_spec hok
  rw [e1, runC_some, asBool_mk]
  simp only [lt]
  have e2 : run 12 [.slice (some ⟨h1.next, 0, none⟩) 1 0] (h1.alloc [.slice pa pn pc] 1 []) = _ := few_lit k1.ok (cs := [.slice pa pn pc]) (ms := [pn]) rfl rfl (fun i hi => by
    match i, hi with
    | 0, _ => exact ⟨_, _, rfl⟩) (by simp)
  rw [e2, runC_some, asBool_mk]
  have k2 : Keeps h (h1.alloc [.slice pa pn pc] 1 []) := keeps_alloc k1 _ _ _
  generalize h1.alloc [.slice pa pn pc] 1 [] = h2 at *
  have ip2 := hp.keeps hok k2
  cases hf : [pn].all fun m => decide (m ≤ 100) with
  | false => exact ⟨h2, rfl⟩
  | true =>
    simp at hf
    rw [Bool.not_true, cond_false]
    obtain ⟨hw, wa, wc, e3, k3, mw⟩ := copy_nil k2.ok ip2 (by omega)
    rw [e3]
    have ipw := ip2.keeps k2.ok k3
    have iw := mw.ints k3.ok
    rw [rank_spec ipw, runC_i _ _ _ (fun y x h => _), rrank_spec ipw, runC_i _ _ _ (fun y x h => _)]
    obtain ⟨h4, a4, n4, c4, k4, m4, e4⟩ := runC_gives (R := Value × Hp) (nth_spec k3.ok n k)
    rw [e4 (fun a n c x h => _)]
    obtain ⟨h5, a5, n5, c5, k5, m5, e5⟩ := runC_gives (R := Value × Hp) (rnth_spec k4.ok n k)
    rw [e5 (fun a n c x h => _)]
    have kw5 := k4.trans k5
    obtain ⟨h6, a6, n6, c6, k6, m6, e6⟩ := runC_givesN (R := Value × Hp) (next_spec k5.ok (ipw.keeps k3.ok kw5))
    rw [e6 (fun a n c b x h => _)]
    have kw6 := kw5.trans k6
    obtain ⟨h7, a7, n7, c7, k7, m7, e7⟩ := runC_givesN (R := Value × Hp) (rnext_spec k6.ok (ipw.keeps k3.ok kw6))
    rw [e7 (fun a n c b x h => _)]
    have kw7 := kw6.trans k7
    obtain ⟨h8, a8, n8, c8, k8, m8, e8⟩ := runC_givesL (R := Value × Hp) (cycles_spec k7.ok (ipw.keeps k3.ok kw7))
    rw [e8 (fun a n c x h => _)]
    have kw8 := kw7.trans k8
    obtain ⟨h9, a9, n9, c9, k9, m9, e9⟩ := runC_givesL (R := Value × Hp) (rcycles_spec k8.ok (ipw.keeps k3.ok kw8))
    rw [e9 (fun a n c x h => _)]
    have kw9 := kw8.trans k9
    obtain ⟨hA, eA, kA⟩ := odd_spec k9.ok (ipw.keeps k3.ok kw9)
    rw [eA, runC_b _ _ _ (fun y x h => _)]
    have kwA := kw9.trans kA
    have ipA := ipw.keeps k3.ok kwA
    rw [rodd_spec ipA, runC_b _ _ _ (fun y x h => _)]
    simp only [decide_true, Bool.not_true, cond_false, beq_self_eq_true]
    have k9A := k9.trans kA
    have k8A := k8.trans k9A
    have k7A := k7.trans k8A
    have k6A := k6.trans k7A
    have k5A := k5.trans k6A
    have n4l := m4.len
    have n6l := m6.len
    rw [intCells_length] at n4l n6l
    have b4 := nthL_length n k
    have b6 := nextL_length p
    have n8l := m8.len
    have b8 := cyclesL_length p
    rw [equal_spec ((m4.keeps k4.ok k5A).ints kA.ok) ((m5.keeps k5.ok k6A).ints kA.ok) (by omega), runC_some, asBool_mk]
    simp only [decide_true, Bool.not_true, cond_false]
    rw [equal_spec ((m6.keeps k6.ok k7A).ints kA.ok) ((m7.keeps k7.ok k8A).ints kA.ok) (by omega), runC_some, asBool_mk]
    simp only [decide_true, Bool.not_true, cond_false]
    rw [same_spec (Lists.keeps k8.ok k9A m8) (Lists.keeps k9.ok kA m9) (by omega) (cyclesL_each p), runC_some, asBool_mk]
    simp only [decide_true, Bool.not_true, cond_false]
    obtain ⟨hz, z1, z2, z3⟩ := inc_loop (h0 := hw) (fun k h => L9_18_eq pa pn pc true wa pn wc a6 n6 c6 (n6 : Int) k h) (lo := h5.next) kw5.next (by omega) n6 0 hA (nextL p) (by omega) (m6.keeps k6.ok k7A) kwA
    have z1' : L9_18 pa pn pc true wa pn wc a6 n6 c6 (n6 : Int) 0 hA = _ := z1
    rw [z1', cond_true, equal_spec (ipw.keeps k3.ok z2) (iw.keeps k3.ok z2) (by omega), runC_some, asBool_mk]
    simp only [decide_true]
    exact ⟨hz, rfl⟩
end
end Go.Proofs.Ytcdeeppiljcddaa.AM
