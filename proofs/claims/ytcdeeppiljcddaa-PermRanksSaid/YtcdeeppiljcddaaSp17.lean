/- Specs of the plain answers: the order of a rank, the next one. Conditions: none. -/
import Derived.Test.YtcdeeppiljcddaaSp16
namespace Go.Proofs.Ytcdeeppiljcddaa.AM
open Go
section
variable {h h0 : Hp}
theorem erase_snoc {l : List Int} {x : Int} {i : Nat} (hne : l.length ≠ i) : (l ++ [x]).eraseIdx i = l.eraseIdx i ++ [x] := by
  by_cases h1 : i < l.length
  · rw [List.eraseIdx_append_of_lt_length h1]
  · rw [List.eraseIdx_of_length_le (by rw [List.length_append, List.length_singleton]; omega), List.eraseIdx_of_length_le (by omega)]
theorem erase_snoc_self {l : List Int} {x : Int} : (l ++ [x]).eraseIdx l.length = l.eraseIdx l.length := by
  rw [List.eraseIdx_of_length_le (Nat.le_refl _), List.eraseIdx_append_of_length_le (Nat.le_refl _)]
  simp
theorem rest_loop {lo : Nat} (hlo : h0.next = lo) {la oa : Option Addr} {ln lc on oc : Nat} {s : List Int} {ocs : List Value} {k1 : Int} {i : Nat} (hn : ln ≤ 12) (hls : ln = s.length) :
    ∀ (j t : Nat) (h : Hp) (ra : Option Addr), j + t = ln → Above h lo la ln (intCells s) → Mine h lo oa on oc ocs → Mine h lo ra ((s.take t).eraseIdx i).length 0 (intCells ((s.take t).eraseIdx i)) → (∀ q, oa = some ⟨q, 0, none⟩ → ra ≠ some ⟨q, 0, none⟩) → Keeps h0 h →
      ∃ h' ra', L30_14 k1 oa on oc (i : Int) ra ((s.take t).eraseIdx i).length 0 la ln lc (ln : Int) (t : Int) h = L30_7 k1 ra' (s.eraseIdx i).length 0 oa on oc h' ∧
        Mine h' lo oa on oc ocs ∧ Mine h' lo ra' (s.eraseIdx i).length 0 (intCells (s.eraseIdx i)) ∧ (∀ q, oa = some ⟨q, 0, none⟩ → ra' ≠ some ⟨q, 0, none⟩) ∧ Keeps h0 h' := by
  intro j
  induction j with
  | zero =>
    intro t h ra ht hl ho hr hd hk
    rw [List.take_of_length_le (by omega)] at hr ⊢
    exact ⟨h, ra, by rw [L30_14_eq, decide_eq_false (by omega), cond_false], ho, hr, hd, hk⟩
  | succ j ih =>
    intro t h ra ht hl ho hr hd hk
    have htl : t < s.length := by omega
    have e4 : s.take (t + 1) = s.take t ++ [s[t]] := by rw [List.take_succ_eq_append_getElem htl]
    have htk : (s.take t).length = t := by rw [List.length_take]; omega
    have il := hl.ints hk.ok
    rw [L30_14_eq, decide_eq_true (by omega), cond_true, il.get htl, wrap_nat (by omega)]
    by_cases hti : t = i
    · rw [decide_eq_true (by omega), Bool.not_true, cond_false]
      have e5 : (s.take (t + 1)).eraseIdx i = (s.take t).eraseIdx i := by
        have := erase_snoc_self (l := s.take t) (x := s[t])
        rw [htk] at this
        rw [e4, ← hti, this]
      have := ih (t + 1) h ra (by omega) hl ho (by rw [e5]; exact hr) hd hk
      rw [e5] at this
      exact this
    · rw [decide_eq_false (by omega), Bool.not_false, cond_true]
      have e5 : (s.take (t + 1)).eraseIdx i = (s.take t).eraseIdx i ++ [s[t]] := by rw [e4, erase_snoc (by omega)]
      have hle : ((s.take t).eraseIdx i).length ≤ t := by
        have := List.length_eraseIdx_le (s.take t) i
        omega
      obtain ⟨h', r', f1, f2, f3, f4, f5, f6⟩ := append1 hk.ok (lo := lo) (by have := hk.next; omega) hr (bytes := 8) (v := .int .i64 s[t]) rfl (by omega) (by omega)
      rw [f1]
      have hk' := f3 _ hk (by omega)
      have := ih (t + 1) h' (some ⟨r', 0, none⟩) (by omega) (hl.later (f6 _)) (ho.frame fun q b hq hb => f4 q b hb (hd q hq)) (by rw [e5, intCells_append, List.length_append]; exact f2) (fun q hq he => by
        have := (ho.lt hk.ok hq).2
        cases he
        omega) hk'
      rw [e5, List.length_append] at this
      exact this
theorem rnth_loop {lo : Nat} (hlo : h0.next = lo) :
    ∀ (j k : Nat) (h : Hp) (la oa : Option Addr) (lc oc : Nat) (s o : List Int), s.length = j → j ≤ 12 → o.length + j ≤ 12 → k < fact j → Above h lo la j (intCells s) → Mine h lo oa o.length oc (intCells o) → Keeps h0 h →
      ∃ h' oa' on' oc', L30_7 (k : Int) la j lc oa o.length oc h = some (.tuple #[.slice oa' on' oc', .int .i64 0], h') ∧ Keeps h0 h' ∧ Mine h' lo oa' on' oc' (intCells (o ++ unr j k s)) := by
  intro j
  induction j with
  | zero =>
    intro k h la oa lc oc s o hs hj ho hk hl hm hkp
    refine ⟨h, oa, _, oc, by rw [L30_7_eq, decide_eq_false (by omega), cond_false], hkp, ?_⟩
    unfold unr
    have : s = [] := List.length_eq_zero_iff.1 hs
    rw [this, List.append_nil]
    exact hm
  | succ j ih =>
    intro k h la oa lc oc s o hs hj ho hk hl hm hkp
    have hfp := fact_pos j
    have hd : k / fact j < s.length := by rw [hs]; exact (Nat.div_lt_iff_lt_mul hfp).2 hk
    have e1 : ((j + 1 : Nat) : Int) - 1 = (j : Int) := by omega
    have e2 : Int.tdiv (k : Int) (fact j : Int) = ((k / fact j : Nat) : Int) := rfl
    have e3 : Int.tmod (k : Int) (fact j : Int) = ((k % fact j : Nat) : Int) := rfl
    have il := hl.ints hkp.ok
    rw [L30_7_eq, decide_eq_true (by omega), cond_true, e1, wrap_cast (by omega), many_spec (by omega), runC_some, asInt_mk]
    simp only [needC]
    rw [decide_eq_false (by omega)]
    simp only [Bool.not_false, cond_true]
    rw [e2, e3, wrap_cast (by omega), il.get hd]
    obtain ⟨h', r', f1, f2, f3, f4, f5, f6⟩ := append1 hkp.ok (lo := lo) (by have := hkp.next; omega) hm (bytes := 8) (v := .int .i64 s[k / fact j]) rfl (by omega) (by omega)
    rw [f1]
    have hk' := f3 _ hkp (by omega)
    have f2' : Mine h' lo (some ⟨r', 0, none⟩) (o.length + 1) 0 (intCells (o ++ [s[k / fact j]])) := by rw [intCells_append]; exact f2
    obtain ⟨h2, ra, g1, g2, g3, g4, g5⟩ := rest_loop (h0 := h0) hlo (la := la) (lc := lc) (k1 := ((k % fact j : Nat) : Int)) (i := k / fact j) (by omega) hs.symm (j + 1) 0 h' none (by omega) (hl.later (f6 _)) f2' (by simp; exact Mine.nil _ _) (fun q hq => by simp) hk'
    have hz0 : ((s.take 0).eraseIdx (k / fact j)).length = 0 := by simp
    rw [hz0] at g1
    have g1' : L30_14 ((k % fact j : Nat) : Int) (some ⟨r', 0, none⟩) (o.length + 1) 0 ((k / fact j : Nat) : Int) none 0 0 la (j + 1) lc ((j + 1 : Nat) : Int) 0 h' = L30_7 ((k % fact j : Nat) : Int) ra (s.eraseIdx (k / fact j)).length 0 (some ⟨r', 0, none⟩) (o.length + 1) 0 h2 := g1
    rw [g1']
    have hel : (s.eraseIdx (k / fact j)).length = j := by rw [List.length_eraseIdx_of_lt hd, hs]; rfl
    rw [hel] at g3 ⊢
    have hol : (o ++ [s[k / fact j]]).length = o.length + 1 := by simp
    obtain ⟨h3, oa', on', oc', t1, t2, t3⟩ := ih (k % fact j) h2 ra (some ⟨r', 0, none⟩) 0 0 (s.eraseIdx (k / fact j)) (o ++ [s[k / fact j]]) hel (by omega) (by omega) (Nat.mod_lt _ hfp) g3.above (by rw [hol]; exact g2) g5
    rw [hol] at t1
    refine ⟨h3, oa', on', oc', t1, t2, ?_⟩
    unfold unr
    rw [atL_eq hd]
    simpa using t3
theorem rnth_spec (hok : HpOk h) (n k : Int) : Gives (run 30 [.int .i64 n, .int .i64 k] h) h (nthL n k) (nthE n k) := by
  rw [eq30]
  obtain ⟨h1, a1, n1, c1, k1, m1, e1⟩ := runC_gives (R := Value × Hp) (rplain_spec hok n)
  rw [e1 (fun a_6 n_7 c_8 x_11 h_2 => _)]
  by_cases hn : 0 ≤ n ∧ n ≤ 12
  · have hpe : plainE n = 0 := if_pos hn
    have hpl : plainL n = upto n.toNat := if_pos hn
    rw [hpl] at m1
    rw [hpe]
    simp only [decide_true, Bool.not_true, cond_false]
    obtain ⟨m, rfl⟩ : ∃ m : Nat, n = m := ⟨n.toNat, by omega⟩
    rw [Int.toNat_natCast] at m1
    have hn1 : n1 = m := by have := m1.len; rw [intCells_length, upto_length] at this; exact this
    subst hn1
    by_cases hk0 : k < 0
    · rw [decide_eq_true hk0, cond_true]
      unfold nthL nthE
      rw [if_pos hn, if_pos hn, if_neg (by omega), if_neg (by omega)]
      exact Gives.err k1 3
    · rw [decide_eq_false hk0, cond_false, many_spec (by omega), runC_some, asInt_mk]
      obtain ⟨q, rfl⟩ : ∃ q : Nat, k = q := ⟨k.toNat, by omega⟩
      by_cases hkf : fact n1 ≤ q
      · rw [decide_eq_true (by omega), cond_true]
        unfold nthL nthE
        rw [if_pos hn, if_pos hn, Int.toNat_natCast, if_neg (by omega), if_neg (by omega)]
        exact Gives.err k1 3
      · rw [decide_eq_false (by omega), cond_false, nthL_eq (by omega) (by omega)]
        have hne : nthE (n1 : Int) (q : Int) = 0 := by
          unfold nthE
          rw [if_pos (by omega), Int.toNat_natCast, if_pos (by omega)]
        rw [hne]
        obtain ⟨h2, oa, on, oc, t1, t2, t3⟩ := rnth_loop (h0 := h) rfl n1 q h1 a1 none c1 0 (upto n1) [] (upto_length _) (by omega) (by simp; omega) (by omega) m1.above (Mine.nil _ _) k1
        exact ⟨h2, oa, on, oc, t1, t2, by simpa using t3⟩
  · have hpe : plainE n = 1 := if_neg hn
    unfold nthL nthE
    rw [if_neg hn, if_neg hn, hpe, decide_eq_false (by omega), Bool.not_false, cond_true]
    exact Gives.err k1 1
theorem rnext_spec (hok : HpOk h) {a : Option Addr} {n c : Nat} {p : List Int} (hp : Ints h a n c p) : GivesN (run 31 [.slice a n c] h) h (nextL p) (nextB p) (ordE p) := by
  have hpn := hp.len
  rw [eq31, rrank_spec hp, runC_i _ _ _ (fun y x h => _)]
  cases ho : isOrd p with
  | false =>
    have h1 : ordE p = 1 := by unfold ordE; rw [ho]; rfl
    rw [h1, decide_eq_false (by omega), Bool.not_false, cond_true]
    unfold nextL nextB
    rw [ho]
    exact ⟨h, none, 0, 0, rfl, Keeps.refl hok, Mine.nil _ _⟩
  | true =>
    have hle := ord_le ho
    have hlt := rk_lt p
    have hfm := fact_mono hle
    rw [fact12] at hfm
    rw [ordE_ok ho, rankL_eq ho]
    simp only [decide_true, Bool.not_true, cond_false]
    rw [many_spec (by omega), runC_some, asInt_mk, wrap_nat (by omega)]
    rcases next_cases ho with ⟨c1, c2, c3⟩ | ⟨c1, c2, c3⟩
    · rw [decide_eq_true (by rw [hpn]; omega), cond_true, c1, c2]
      obtain ⟨h1, a1, c1', e1, k1, m1⟩ := copy_nil hok hp (by omega)
      rw [e1]
      exact ⟨h1, a1, n, c1', rfl, k1, m1⟩
    · have hlt2 := rk_lt (nextL p)
      rw [c2.length_eq] at hlt2
      rw [decide_eq_false (by rw [hpn]; omega), cond_false]
      obtain ⟨h1, a1, n1, c1', k1, m1, e1⟩ := runC_gives (R := Value × Hp) (rnth_spec hok (n : Int) ((rk p + 1 : Nat) : Int))
      have hq : rk p + 1 < fact n := by rw [hpn]; omega
      have hne : nthE (n : Int) ((rk p + 1 : Nat) : Int) = 0 := by
        unfold nthE
        rw [if_pos (by omega), Int.toNat_natCast, if_pos (by omega)]
      obtain ⟨x1, x2⟩ := nthL_ok (m := n) (by omega) hq
      have hsame : nthL (n : Int) ((rk p + 1 : Nat) : Int) = nextL p := by
        refine rk_inj ?_ (x1.symm.nodup (upto_nodup n)) (by rw [x2, c3])
        refine x1.trans ?_
        rw [hpn]
        exact (ord_perm ho).trans c2.symm
      rw [hne] at e1
      rw [hsame] at m1
      rw [e1 (fun a n c x h => _), c1]
      exact ⟨h1, a1, n1, c1', rfl, k1, m1⟩
end
end Go.Proofs.Ytcdeeppiljcddaa.AM
