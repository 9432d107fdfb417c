/- The laws PermBack and PermAfter, walked; orders put together. Conditions: none. -/
import Derived.Test.YtcdeeppiljcddaaSp8
namespace Go.Proofs.Ytcdeeppiljcddaa.AM
open Go

/-! ### Orders -/
theorem ext_at {a b : List Int} (hl : a.length = b.length) (h : ∀ x : Nat, x < a.length → atL a (x : Int) = atL b (x : Int)) : a = b := by
  apply List.ext_getElem hl
  intro i h1 h2
  have := h i h1
  rwa [atL_eq h1, atL_eq h2] at this
theorem at_pick {p q : List Int} {x : Int} (h0 : 0 ≤ x) (h1 : x < q.length) : atL (pickL q p) x = atL p (atL q x) := by
  obtain ⟨m, rfl⟩ : ∃ m : Nat, x = m := ⟨x.toNat, by omega⟩
  have hm : m < q.length := by omega
  rw [atL_eq (l := pickL q p) (by rw [pickL_length]; exact hm), atL_eq hm]
  simp [pickL]
theorem at_upto {n : Nat} {x : Int} (h0 : 0 ≤ x) (h1 : x < n) : atL (upto n) x = x := by
  obtain ⟨m, rfl⟩ : ∃ m : Nat, x = m := ⟨x.toNat, by omega⟩
  rw [atL_eq (by rw [upto_length]; omega)]
  simp [upto]
theorem ord_at {p : List Int} (ho : isOrd p = true) {x : Int} (h0 : 0 ≤ x) (h1 : x < p.length) : 0 ≤ atL p x ∧ atL p x < p.length := by
  obtain ⟨m, rfl⟩ : ∃ m : Nat, x = m := ⟨x.toNat, by omega⟩
  have hm : m < p.length := by omega
  rw [atL_eq hm]
  exact (ord_mem ho).1 (List.getElem_mem hm)
theorem invL_length (p : List Int) : (invL p).length = p.length := by simp [invL, upto]
theorem at_invL {p : List Int} {x : Nat} (h : x < p.length) : atL (invL p) (x : Int) = (p.idxOf (x : Int) : Int) := by
  rw [atL_eq (by rw [invL_length]; exact h)]
  simp [invL, upto]
theorem inv_at {p : List Int} (ho : isOrd p = true) {x : Int} (h0 : 0 ≤ x) (h1 : x < p.length) : atL (invL p) (atL p x) = x := by
  have h2 := ord_at ho h0 h1
  obtain ⟨m, rfl⟩ : ∃ m : Nat, x = m := ⟨x.toNat, by omega⟩
  have hm : m < p.length := by omega
  obtain ⟨y, hy⟩ : ∃ y : Nat, atL p (m : Int) = y := ⟨(atL p m).toNat, by omega⟩
  rw [hy, at_invL (by omega), ← hy, atL_eq hm, idxOf_getElem_of_nodup (ord_nodup ho) hm]
theorem at_inv {p : List Int} (ho : isOrd p = true) {x : Int} (h0 : 0 ≤ x) (h1 : x < p.length) : atL p (atL (invL p) x) = x ∧ 0 ≤ atL (invL p) x ∧ atL (invL p) x < p.length := by
  obtain ⟨m, rfl⟩ : ∃ m : Nat, x = m := ⟨x.toNat, by omega⟩
  have hi : (m : Int) ∈ p := (ord_mem ho).2 ⟨h0, h1⟩
  have h3 := List.idxOf_lt_length_iff.2 hi
  rw [at_invL (by omega), atL_eq h3, List.getElem_idxOf h3]
  omega
theorem ord_of_at {p : List Int} (hl : p.length ≤ 12) (h : ∀ y : Nat, y < p.length → ∃ x : Int, 0 ≤ x ∧ x < p.length ∧ atL p x = y) : isOrd p = true :=
  isOrd_iff.2 ⟨hl, fun i hi => by
    obtain ⟨x, h0, h1, h2⟩ := h i hi
    obtain ⟨m, rfl⟩ : ∃ m : Nat, x = m := ⟨x.toNat, by omega⟩
    have hm : m < p.length := by omega
    rw [atL_eq hm] at h2
    rw [← h2]
    exact List.getElem_mem hm⟩
theorem ord_upto {n : Nat} (hn : n ≤ 12) : isOrd (upto n) = true := ord_of_at (by rw [upto_length]; exact hn) fun y hy => by
  rw [upto_length] at hy
  exact ⟨y, by omega, by rw [upto_length]; omega, at_upto (by omega) (by omega)⟩
theorem ord_inv {p : List Int} (ho : isOrd p = true) : isOrd (invL p) = true := ord_of_at (by rw [invL_length]; exact ord_le ho) fun y hy => by
  rw [invL_length] at hy
  have := ord_at ho (x := (y : Int)) (by omega) (by omega)
  exact ⟨atL p y, this.1, by rw [invL_length]; exact this.2, inv_at ho (by omega) (by omega)⟩
theorem ord_pick {p q : List Int} (hp : isOrd p = true) (hq : isOrd q = true) (hl : q.length = p.length) : isOrd (pickL q p) = true := ord_of_at (by rw [pickL_length]; exact ord_le hq) fun y hy => by
  rw [pickL_length] at hy
  have h1 := at_inv hp (x := (y : Int)) (by omega) (by omega)
  have h2 := at_inv hq (x := atL (invL p) y) h1.2.1 (by omega)
  refine ⟨_, h2.2.1, by rw [pickL_length]; exact h2.2.2, ?_⟩
  rw [at_pick h2.2.1 h2.2.2, h2.1, h1.1]
theorem pick_upto {p : List Int} : pickL (upto p.length) p = p := ext_at (by rw [pickL_length, upto_length]) fun x hx => by
  rw [pickL_length, upto_length] at hx
  rw [at_pick (by omega) (by rw [upto_length]; omega), at_upto (by omega) (by omega)]
theorem upto_pick {p : List Int} (ho : isOrd p = true) : pickL p (upto p.length) = p := ext_at (by rw [pickL_length]) fun x hx => by
  rw [pickL_length] at hx
  have := ord_at ho (x := (x : Int)) (by omega) (by omega)
  rw [at_pick (by omega) (by omega), at_upto this.1 this.2]
theorem inv_pick {p : List Int} (ho : isOrd p = true) : pickL (invL p) p = upto p.length := ext_at (by rw [pickL_length, invL_length, upto_length]) fun x hx => by
  rw [pickL_length, invL_length] at hx
  rw [at_pick (by omega) (by rw [invL_length]; omega), (at_inv ho (by omega) (by omega)).1, at_upto (by omega) (by omega)]
theorem pick_inv {p : List Int} (ho : isOrd p = true) : pickL p (invL p) = upto p.length := ext_at (by rw [pickL_length, upto_length]) fun x hx => by
  rw [pickL_length] at hx
  rw [at_pick (by omega) (by omega), inv_at ho (by omega) (by omega), at_upto (by omega) (by omega)]
theorem inv_inv {p : List Int} (ho : isOrd p = true) : invL (invL p) = p := ext_at (by rw [invL_length, invL_length]) fun x hx => by
  rw [invL_length, invL_length] at hx
  have h1 := ord_at ho (x := (x : Int)) (by omega) (by omega)
  have h2 := inv_at (ord_inv ho) (x := atL p x) h1.1 (by rw [invL_length]; exact h1.2)
  rwa [inv_at ho (by omega) (by omega)] at h2
theorem pick_assoc {p q r : List Int} (hr : isOrd r = true) (hl : r.length = q.length) : pickL r (pickL q p) = pickL (pickL r q) p := ext_at (by simp only [pickL_length]) fun x hx => by
  rw [pickL_length] at hx
  have h1 := ord_at hr (x := (x : Int)) (by omega) (by omega)
  rw [at_pick (by omega) (by omega), at_pick h1.1 (by omega), at_pick (by omega) (by rw [pickL_length]; omega), at_pick (by omega) (by omega)]
theorem inv_both {p q : List Int} (hp : isOrd p = true) (hq : isOrd q = true) (hl : q.length = p.length) : invL (pickL q p) = pickL (invL p) (invL q) := ext_at (by simp only [pickL_length, invL_length]; exact hl) fun x hx => by
  rw [invL_length, pickL_length] at hx
  have h1 := at_inv hp (x := (x : Int)) (by omega) (by omega)
  have h2 := at_inv hq (x := atL (invL p) x) h1.2.1 (by omega)
  rw [at_pick (by omega) (by rw [invL_length]; omega)]
  have h3 := inv_at (ord_pick hp hq hl) (x := atL (invL q) (atL (invL p) x)) h2.2.1 (by rw [pickL_length]; exact h2.2.2)
  rwa [at_pick h2.2.1 h2.2.2, h2.1, h1.1] at h3
theorem turn_back {p l : List Int} (ho : isOrd p = true) (hl : l.length = p.length) : pickL (invL p) (pickL p l) = l := ext_at (by rw [pickL_length, invL_length, hl]) fun x hx => by
  rw [pickL_length, invL_length] at hx
  have h1 := at_inv ho (x := (x : Int)) (by omega) (by omega)
  rw [at_pick (by omega) (by rw [invL_length]; omega), at_pick h1.2.1 h1.2.2, h1.1]

theorem ordE_ok {p : List Int} (ho : isOrd p = true) : ordE p = 0 := if_pos ho
theorem inverseL_ok {p : List Int} (ho : isOrd p = true) : inverseL p = invL p := if_pos ho
theorem plainE_ok {n : Nat} (hn : n ≤ 12) : plainE (n : Int) = 0 := if_pos (by omega)
theorem plainL_ok {n : Nat} (hn : n ≤ 12) : plainL (n : Int) = upto n := by unfold plainL; rw [if_pos (by omega), Int.toNat_natCast]
theorem afterE_ok {p q : List Int} (hp : isOrd p = true) (hq : isOrd q = true) (hl : q.length = p.length) : afterE p q = 0 := by unfold afterE; rw [if_pos hp, if_pos hq, if_pos hl]
theorem afterL_ok {p q : List Int} (hp : isOrd p = true) (hq : isOrd q = true) (hl : q.length = p.length) : afterL p q = pickL q p := if_pos ⟨hp, hq, hl⟩
theorem turnE_ok {l p : List Int} (hp : isOrd p = true) (hl : p.length = l.length) : turnE l p = 0 := by unfold turnE; rw [if_pos hp, if_pos hl]
theorem turnL_ok {l p : List Int} (hp : isOrd p = true) (hl : p.length = l.length) : turnL l p = pickL p l := if_pos ⟨hp, hl⟩

section
variable {h h0 : Hp}
theorem back_spec (hok : HpOk h) {pa la : Option Addr} {pn pc ln lc : Nat} {p l : List Int} (hp : Ints h pa pn pc p) (hl : Ints h la ln lc l) :
    ∃ h', run 6 [.slice pa pn pc, .slice la ln lc] h = some (.bool true, h') := by
  rw [eq6]
  have hpn := hp.len
  have hln := hl.len
  obtain ⟨h1, e1, k1⟩ := live_spec hok
  rw [e1, runC_some, asBool_mk]
  simp only [lt]
  have e2 : run 12 [.slice (some ⟨h1.next, 0, none⟩) 2 0] (h1.alloc [.slice pa pn pc, .slice la ln lc] 1 []) = _ := few_lit k1.ok (cs := [.slice pa pn pc, .slice la ln lc]) (ms := [pn, ln]) rfl rfl (fun i hi => by
    match i, hi with
    | 0, _ => exact ⟨_, _, rfl⟩
    | 1, _ => exact ⟨_, _, rfl⟩) (by simp)
  rw [e2, runC_some, asBool_mk]
  have k2 : Keeps h (h1.alloc [.slice pa pn pc, .slice la ln lc] 1 []) := keeps_alloc k1 _ _ _
  generalize h1.alloc [.slice pa pn pc, .slice la ln lc] 1 [] = h2 at *
  cases hf : [pn, ln].all fun m => decide (m ≤ 100) with
  | false => exact ⟨h2, rfl⟩
  | true =>
    simp at hf
    obtain ⟨f1, f3⟩ := hf
    rw [Bool.not_true, cond_false, check_spec (hp.keeps hok k2), runC_some, asInt_mk]
    cases ho : isOrd p with
    | false => exact ⟨h2, rfl⟩
    | true =>
      have hle := ord_le ho
      simp only [if_true, decide_true, Bool.not_true, cond_false]
      have hoi := ord_inv ho
      obtain ⟨h3, a3, n3, c3, k3, m3, e3⟩ := runC_gives (R := Value × Hp) (inverse_spec k2.ok (hp.keeps hok k2))
      rw [ordE_ok ho] at e3
      rw [inverseL_ok ho] at m3
      rw [e3 (fun a n c x h => _)]
      have kk3 := k2.trans k3
      obtain ⟨h4, a4, n4, c4, k4, m4, e4⟩ := runC_gives (R := Value × Hp) (plain_spec k3.ok (pn : Int))
      rw [plainE_ok (by omega)] at e4
      rw [plainL_ok (by omega)] at m4
      rw [e4 (fun a n c x h => _)]
      have kk4 := kk3.trans k4
      have i34 := (m3.keeps k3.ok k4).ints k4.ok
      obtain ⟨h5, a5, n5, c5, k5, m5, e5⟩ := runC_gives (R := Value × Hp) (after_spec k4.ok (hp.keeps hok kk4) i34)
      rw [afterE_ok ho hoi (invL_length p)] at e5
      rw [afterL_ok ho hoi (invL_length p), inv_pick ho] at m5
      rw [e5 (fun a n c x h => _)]
      have kk5 := kk4.trans k5
      have i35 := i34.keeps k4.ok k5
      obtain ⟨h6, a6, n6, c6, k6, m6, e6⟩ := runC_gives (R := Value × Hp) (after_spec k5.ok i35 (hp.keeps hok kk5))
      rw [afterE_ok hoi ho (invL_length p).symm] at e6
      rw [afterL_ok hoi ho (invL_length p).symm, pick_inv ho] at m6
      rw [e6 (fun a n c x h => _)]
      have kk6 := kk5.trans k6
      have i36 := i35.keeps k5.ok k6
      obtain ⟨h7, a7, n7, c7, k7, m7, e7⟩ := runC_gives (R := Value × Hp) (inverse_spec k6.ok i36)
      rw [ordE_ok hoi] at e7
      rw [inverseL_ok hoi, inv_inv ho] at m7
      rw [e7 (fun a n c x h => _)]
      have kk7 := kk6.trans k7
      have i37 := i36.keeps k6.ok k7
      simp only [decide_true, Bool.not_true, cond_false]
      have i4 := (m4.keeps k4.ok (k5.trans (k6.trans k7))).ints k7.ok
      have i5 := (m5.keeps k5.ok (k6.trans k7)).ints k7.ok
      have i6 := (m6.keeps k6.ok k7).ints k7.ok
      have i7 := m7.ints k7.ok
      have ip := hp.keeps hok kk7
      have il := hl.keeps hok kk7
      have n5l := i5.len
      have n6l := i6.len
      have n7l := i7.len
      rw [upto_length] at n5l n6l
      rw [← hpn] at i5 i6
      rw [equal_spec i5 i4 (by omega), runC_some, asBool_mk]
      simp only [decide_true, Bool.not_true, cond_false]
      rw [equal_spec i6 i4 (by omega), runC_some, asBool_mk]
      simp only [decide_true, Bool.not_true, cond_false]
      rw [equal_spec i7 ip (by omega), runC_some, asBool_mk]
      simp only [decide_true, Bool.not_true, cond_false]
      by_cases hlp : l.length = p.length
      · rw [decide_eq_true (by omega), Bool.not_true, cond_false]
        obtain ⟨h8, a8, n8, c8, k8, m8, e8⟩ := runC_gives (R := Value × Hp) (turn_spec k7.ok il ip)
        rw [turnE_ok ho hlp.symm] at e8
        rw [turnL_ok ho hlp.symm] at m8
        rw [e8 (fun a n c x h => _)]
        obtain ⟨h9, a9, n9, c9, k9, m9, e9⟩ := runC_gives (R := Value × Hp) (turn_spec k8.ok (m8.ints k8.ok) (i37.keeps k7.ok k8))
        have hll : (invL p).length = (pickL p l).length := by rw [invL_length, pickL_length]
        rw [turnE_ok hoi hll] at e9
        rw [turnL_ok hoi hll, turn_back ho hlp] at m9
        rw [e9 (fun a n c x h => _)]
        have i9 := m9.ints k9.ok
        have n9l := i9.len
        simp only [decide_true, cond_true]
        rw [equal_spec i9 (il.keeps k7.ok (k8.trans k9)) (by omega), runC_some, asBool_mk]
        simp only [decide_true]
        exact ⟨_, rfl⟩
      · rw [decide_eq_false (by omega), Bool.not_false, cond_true]
        obtain ⟨h8, a8, n8, c8, k8, m8, e8⟩ := runC_gives (R := Value × Hp) (turn_spec k7.ok il ip)
        rw [e8 (fun a n c x h => _)]
        have : turnE l p = 4 := by unfold turnE; rw [if_pos ho, if_neg (fun hh => hlp hh.symm)]
        rw [this]
        exact ⟨_, rfl⟩
theorem after_law (hok : HpOk h) {pa qa ra : Option Addr} {pn pc qn qc rn rc : Nat} {p q r : List Int} (hp : Ints h pa pn pc p) (hq : Ints h qa qn qc q) (hr : Ints h ra rn rc r) :
    ∃ h', run 4 [.slice pa pn pc, .slice qa qn qc, .slice ra rn rc] h = some (.bool true, h') := by
  rw [eq4]
  have hpn := hp.len
  have hqn := hq.len
  have hrn := hr.len
  obtain ⟨h1, e1, k1⟩ := live_spec hok
  rw [e1, runC_some, asBool_mk]
  simp only [lt]
  have e2 : run 12 [.slice (some ⟨h1.next, 0, none⟩) 3 0] (h1.alloc [.slice pa pn pc, .slice qa qn qc, .slice ra rn rc] 1 []) = _ := few_lit k1.ok (cs := [.slice pa pn pc, .slice qa qn qc, .slice ra rn rc]) (ms := [pn, qn, rn]) rfl rfl (fun i hi => by
    match i, hi with
    | 0, _ => exact ⟨_, _, rfl⟩
    | 1, _ => exact ⟨_, _, rfl⟩
    | 2, _ => exact ⟨_, _, rfl⟩) (by simp)
  rw [e2, runC_some, asBool_mk]
  have k2 : Keeps h (h1.alloc [.slice pa pn pc, .slice qa qn qc, .slice ra rn rc] 1 []) := keeps_alloc k1 _ _ _
  generalize h1.alloc [.slice pa pn pc, .slice qa qn qc, .slice ra rn rc] 1 [] = h2 at *
  have ip2 := hp.keeps hok k2
  have iq2 := hq.keeps hok k2
  have ir2 := hr.keeps hok k2
  cases hf : [pn, qn, rn].all fun m => decide (m ≤ 100) with
  | false => exact ⟨h2, rfl⟩
  | true =>
    rw [Bool.not_true, cond_false, check_spec ip2, runC_some, asInt_mk]
    cases hpo : isOrd p with
    | false => exact ⟨h2, rfl⟩
    | true =>
      simp only [if_true, decide_true, Bool.not_true, cond_false]
      rw [check_spec iq2, runC_some, asInt_mk]
      cases hqo : isOrd q with
      | false => exact ⟨h2, rfl⟩
      | true =>
        simp only [if_true, decide_true, Bool.not_true, cond_false]
        rw [check_spec ir2, runC_some, asInt_mk]
        cases hro : isOrd r with
        | false => exact ⟨h2, rfl⟩
        | true =>
          simp only [if_true, decide_true, Bool.not_true, cond_false]
          by_cases l1 : p.length = q.length
          · rw [decide_eq_true (by omega), Bool.not_true, cond_false]
            by_cases l2 : q.length = r.length
            · rw [decide_eq_true (by omega), Bool.not_true, cond_false]
              have hle := ord_le hpo
              have opq := ord_pick hpo hqo l1.symm
              have oqr := ord_pick hqo hro l2.symm
              obtain ⟨h3, a3, n3, c3, k3, m3, e3⟩ := runC_gives (R := Value × Hp) (after_spec k2.ok ip2 iq2)
              rw [afterE_ok hpo hqo l1.symm] at e3
              rw [afterL_ok hpo hqo l1.symm] at m3
              rw [e3 (fun a n c x h => _)]
              have ip3 := ip2.keeps k2.ok k3
              have iq3 := iq2.keeps k2.ok k3
              have ir3 := ir2.keeps k2.ok k3
              have ha4 : r.length = (pickL q p).length := by rw [pickL_length]; omega
              obtain ⟨h4, a4, n4, c4, k4, m4, e4⟩ := runC_gives (R := Value × Hp) (after_spec k3.ok (m3.ints k3.ok) ir3)
              rw [afterE_ok opq hro ha4] at e4
              rw [afterL_ok opq hro ha4] at m4
              rw [e4 (fun a n c x h => _)]
              have ip4 := ip3.keeps k3.ok k4
              have iq4 := iq3.keeps k3.ok k4
              have ir4 := ir3.keeps k3.ok k4
              obtain ⟨h5, a5, n5, c5, k5, m5, e5⟩ := runC_gives (R := Value × Hp) (after_spec k4.ok iq4 ir4)
              rw [afterE_ok hqo hro l2.symm] at e5
              rw [afterL_ok hqo hro l2.symm] at m5
              rw [e5 (fun a n c x h => _)]
              have ip5 := ip4.keeps k4.ok k5
              have iq5 := iq4.keeps k4.ok k5
              have ha6 : (pickL r q).length = p.length := by rw [pickL_length]; omega
              obtain ⟨h6, a6, n6, c6, k6, m6, e6⟩ := runC_gives (R := Value × Hp) (after_spec k5.ok ip5 (m5.ints k5.ok))
              rw [afterE_ok hpo oqr ha6] at e6
              rw [afterL_ok hpo oqr ha6, ← pick_assoc hro l2.symm] at m6
              rw [e6 (fun a n c x h => _)]
              have ip6 := ip5.keeps k5.ok k6
              have iq6 := iq5.keeps k5.ok k6
              obtain ⟨h7, a7, n7, c7, k7, m7, e7⟩ := runC_gives (R := Value × Hp) (plain_spec k6.ok (pn : Int))
              rw [plainE_ok (by omega)] at e7
              rw [plainL_ok (by omega), hpn] at m7
              rw [e7 (fun a n c x h => _)]
              have ip7 := ip6.keeps k6.ok k7
              have iq7 := iq6.keeps k6.ok k7
              have i77 := m7.ints k7.ok
              have ou := ord_upto (n := p.length) (by omega)
              obtain ⟨h8, a8, n8, c8, k8, m8, e8⟩ := runC_gives (R := Value × Hp) (after_spec k7.ok ip7 i77)
              rw [afterE_ok hpo ou (upto_length _)] at e8
              rw [afterL_ok hpo ou (upto_length _), pick_upto] at m8
              rw [e8 (fun a n c x h => _)]
              have ip8 := ip7.keeps k7.ok k8
              have iq8 := iq7.keeps k7.ok k8
              have i78 := i77.keeps k7.ok k8
              obtain ⟨h9, a9, n9, c9, k9, m9, e9⟩ := runC_gives (R := Value × Hp) (after_spec k8.ok i78 ip8)
              rw [afterE_ok ou hpo (upto_length _).symm] at e9
              rw [afterL_ok ou hpo (upto_length _).symm, upto_pick hpo] at m9
              rw [e9 (fun a n c x h => _)]
              have ip9 := ip8.keeps k8.ok k9
              have iq9 := iq8.keeps k8.ok k9
              simp only [decide_true, Bool.not_true, cond_false]
              have k79 := k7.trans (k8.trans k9)
              have i4 := (m4.keeps k4.ok (k5.trans (k6.trans k79))).ints k9.ok
              have i6 := (m6.keeps k6.ok k79).ints k9.ok
              have i8 := (m8.keeps k8.ok k9).ints k9.ok
              have i9 := m9.ints k9.ok
              have i4l := i4.len
              have i8l := i8.len
              have i9l := i9.len
              rw [pickL_length] at i4l
              rw [equal_spec i4 i6 (by omega), runC_some, asBool_mk]
              simp only [decide_true, Bool.not_true, cond_false]
              rw [equal_spec i8 ip9 (by omega), runC_some, asBool_mk]
              simp only [decide_true, Bool.not_true, cond_false]
              rw [equal_spec i9 ip9 (by omega), runC_some, asBool_mk]
              simp only [decide_true, Bool.not_true, cond_false]
              obtain ⟨hA, aA, nA, cA, kA, mA, eA⟩ := runC_gives (R := Value × Hp) (after_spec k9.ok ip9 iq9)
              rw [afterE_ok hpo hqo l1.symm] at eA
              rw [afterL_ok hpo hqo l1.symm] at mA
              rw [eA (fun a n c x h => _)]
              have ipA := ip9.keeps k9.ok kA
              have iqA := iq9.keeps k9.ok kA
              obtain ⟨hB, aB, nB, cB, kB, mB, eB⟩ := runC_gives (R := Value × Hp) (inverse_spec kA.ok (mA.ints kA.ok))
              rw [ordE_ok opq] at eB
              rw [inverseL_ok opq, inv_both hpo hqo l1.symm] at mB
              rw [eB (fun a n c x h => _)]
              have ipB := ipA.keeps kA.ok kB
              have iqB := iqA.keeps kA.ok kB
              obtain ⟨hC, aC, nC, cC, kC, mC, eC⟩ := runC_gives (R := Value × Hp) (inverse_spec kB.ok ipB)
              rw [ordE_ok hpo] at eC
              rw [inverseL_ok hpo] at mC
              rw [eC (fun a n c x h => _)]
              have iqC := iqB.keeps kB.ok kC
              obtain ⟨hD, aD, nD, cD, kD, mD, eD⟩ := runC_gives (R := Value × Hp) (inverse_spec kC.ok iqC)
              rw [ordE_ok hqo] at eD
              rw [inverseL_ok hqo] at mD
              rw [eD (fun a n c x h => _)]
              have iC := (mC.keeps kC.ok kD).ints kD.ok
              have hlE : (invL p).length = (invL q).length := by rw [invL_length, invL_length]; exact l1
              obtain ⟨hE, aE, nE, cE, kE, mE, eE⟩ := runC_gives (R := Value × Hp) (after_spec kD.ok (mD.ints kD.ok) iC)
              rw [afterE_ok (ord_inv hqo) (ord_inv hpo) hlE] at eE
              rw [afterL_ok (ord_inv hqo) (ord_inv hpo) hlE] at mE
              rw [eE (fun a n c x h => _)]
              simp only [decide_true, cond_true]
              have iB := (mB.keeps kB.ok (kC.trans (kD.trans kE))).ints kE.ok
              have iBl := iB.len
              rw [pickL_length, invL_length] at iBl
              rw [equal_spec iB (mE.ints kE.ok) (by omega), runC_some, asBool_mk]
              simp only [decide_true]
              exact ⟨_, rfl⟩
            · rw [decide_eq_false (by omega)]
              exact ⟨h2, rfl⟩
          · rw [decide_eq_false (by omega)]
            exact ⟨h2, rfl⟩
end
end Go.Proofs.Ytcdeeppiljcddaa.AM
