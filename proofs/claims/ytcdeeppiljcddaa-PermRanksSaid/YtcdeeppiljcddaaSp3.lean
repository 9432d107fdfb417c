/- Specs of functions of perm: inverses, and the plain answers. Conditions: none. -/
import Derived.Test.YtcdeeppiljcddaaSp2
namespace Go.Proofs.Ytcdeeppiljcddaa.AM
open Go
section
variable {h h0 : Hp}

theorem perm_of_sub {α : Type} [DecidableEq α] : ∀ {l m : List α}, l.Nodup → l ⊆ m → m.length ≤ l.length → l.Perm m
  | [], m, _, _, hl => by
    cases m with
    | nil => exact .refl _
    | cons x m => simp at hl
  | a :: t, m, hn, hs, hl => by
    rw [List.nodup_cons] at hn
    have ha : a ∈ m := hs (List.mem_cons_self ..)
    have h1 := List.perm_cons_erase ha
    refine List.Perm.trans (List.Perm.cons a (perm_of_sub hn.2 ?_ ?_)) h1.symm
    · intro x hx
      have hxa : x ≠ a := fun h => hn.1 (h ▸ hx)
      exact (List.mem_erase_of_ne hxa).2 (hs (List.mem_cons_of_mem _ hx))
    · have := h1.length_eq
      simp only [List.length_cons] at this hl
      omega
theorem ord_perm {p : List Int} (ho : isOrd p = true) : (upto p.length).Perm p := by
  obtain ⟨_, h2⟩ := isOrd_iff.1 ho
  refine perm_of_sub (upto_nodup _) (fun x hx => ?_) (by rw [upto_length]; exact Nat.le_refl _)
  have := mem_upto.1 hx
  have h3 := h2 x.toNat (by omega)
  rwa [Int.toNat_of_nonneg this.1] at h3
theorem ord_nodup {p : List Int} (ho : isOrd p = true) : p.Nodup := (ord_perm ho).nodup (upto_nodup _)
theorem ord_mem {p : List Int} (ho : isOrd p = true) {x : Int} : x ∈ p ↔ 0 ≤ x ∧ x < p.length := by rw [← (ord_perm ho).mem_iff, mem_upto]
theorem ord_le {p : List Int} (ho : isOrd p = true) : p.length ≤ 12 := (isOrd_iff.1 ho).1
theorem ord_of_perm {p : List Int} (hl : p.length ≤ 12) (hp : (upto p.length).Perm p) : isOrd p = true :=
  isOrd_iff.2 ⟨hl, fun i hi => hp.mem_iff.1 (mem_upto.2 ⟨by omega, by omega⟩)⟩

/-! ### Is -/
theorem count_upto (n : Nat) (i : Nat) : (upto n).count (i : Int) = if i < n then 1 else 0 := by
  rw [(upto_nodup n).count]
  by_cases h1 : i < n
  · rw [if_pos h1, if_pos (mem_upto.2 ⟨by omega, by omega⟩)]
  · rw [if_neg h1, if_neg (fun hh => by have := mem_upto.1 hh; omega)]
theorem isOrd_count {p : List Int} (hl : p.length ≤ 12) : isOrd p = true ↔ ∀ i : Nat, i < p.length → p.count (i : Int) = 1 := by
  constructor
  · intro ho i hi
    rw [← (ord_perm ho).count_eq, count_upto, if_pos hi]
  · intro hc
    refine isOrd_iff.2 ⟨hl, fun i hi => List.count_pos_iff.1 ?_⟩
    rw [hc i hi]; omega
theorem count_loop {a : Option Addr} {n c : Nat} {p : List Int} (hp : Ints h a n c p) (hn : n ≤ 12) (i : Nat) :
    ∀ (j k : Nat), j + k = n → L38_16 a n c (i : Int) ((p.take k).count (i : Int) : Nat) (n : Int) (i : Int) a n c (n : Int) (k : Int) h =
      if p.count (i : Int) = 1 then L38_12 a n c (n : Int) (IntKind.i64.wrap ((i : Int) + 1)) h else some (.tuple #[.slice none 0 0, .bool false], h) := by
  have hpn := hp.len
  intro j
  induction j with
  | zero =>
    intro k hk
    rw [List.take_of_length_le (by omega), L38_16_eq, decide_eq_false (by omega), cond_false]
    by_cases h1 : p.count (i : Int) = 1
    · rw [if_pos h1, decide_eq_true (by omega), Bool.not_true, cond_false]
    · rw [if_neg h1, decide_eq_false (by omega), Bool.not_false, cond_true]
  | succ j ih =>
    intro k hk
    have hkl : k < p.length := by omega
    have e4 : p.take (k + 1) = p.take k ++ [p[k]] := by rw [List.take_succ_eq_append_getElem hkl]
    have hcl := List.count_le_length (a := (i : Int)) (l := p.take k)
    rw [List.length_take] at hcl
    have hi := ih (k + 1) (by omega)
    rw [e4, List.count_append] at hi
    rw [L38_16_eq, decide_eq_true (by omega), cond_true, hp.get hkl]
    by_cases h1 : p[k] = (i : Int)
    · rw [decide_eq_true h1, cond_true, wrap_nat (by omega), wrap_nat (by omega)]
      rw [h1, List.count_cons_self, List.count_nil] at hi
      exact hi
    · rw [decide_eq_false h1, cond_false, wrap_nat (by omega)]
      rw [List.count_cons_of_ne h1, List.count_nil] at hi
      exact hi
theorem order_loop {a : Option Addr} {n c : Nat} {p : List Int} (hp : Ints h a n c p) (hn : n ≤ 12) :
    ∀ (j k : Nat), j + k = n → (∀ i, i < k → p.count (i : Int) = 1) → ∃ a' n' c', L38_12 a n c (n : Int) (k : Int) h = some (.tuple #[.slice a' n' c', .bool (isOrd p)], h) := by
  have hpn := hp.len
  intro j
  induction j with
  | zero =>
    intro k hk hc
    refine ⟨a, n, c, ?_⟩
    rw [L38_12_eq, decide_eq_false (by omega), cond_false, (isOrd_count (by omega)).2 (fun i hi => hc i (by omega))]
  | succ j ih =>
    intro k hk hc
    have h1 := count_loop hp hn k n 0 (by omega)
    have h2 : L38_16 a n c (k : Int) 0 (n : Int) (k : Int) a n c (n : Int) 0 h = _ := h1
    rw [L38_12_eq, decide_eq_true (by omega), cond_true, h2]
    by_cases h3 : p.count (k : Int) = 1
    · rw [if_pos h3, wrap_nat (by omega)]
      refine ih (k + 1) (by omega) fun i hi => ?_
      by_cases h4 : i = k
      · rw [h4]; exact h3
      · exact hc i (by omega)
    · rw [if_neg h3]
      have : isOrd p = false := by
        rw [← Bool.not_eq_true, isOrd_count (by omega)]
        intro hh
        exact h3 (hh k (by omega))
      exact ⟨none, 0, 0, by rw [this]⟩
theorem is_spec {a : Option Addr} {n c : Nat} {p : List Int} (hp : Ints h a n c p) : run 39 [.slice a n c] h = some (.bool (isOrd p), h) := by
  have hpn := hp.len
  rw [eq39]
  by_cases h1 : 12 < n
  · rw [decide_eq_true (by omega), cond_true]
    have : isOrd p = false := by simp [isOrd]; omega
    rw [this]
  · rw [decide_eq_false (by omega), cond_false]
    by_cases h2 : n = 0
    · rw [decide_eq_true (by omega), cond_true, isOrd_iff.2 ⟨by omega, fun i hi => by omega⟩]
    · rw [decide_eq_false (by omega), cond_false, eq38, decide_eq_false (by omega), cond_false, decide_eq_true rfl, Bool.not_true, cond_false]
      obtain ⟨a', n', c', e⟩ := order_loop hp (by omega) n 0 (by omega) (fun i hi => by omega)
      have e' : L38_12 a n c (n : Int) 0 h = _ := e
      rw [e', runC_some]
      show tupC (.tuple (List.toArray [Value.slice a' n' c', Value.bool (isOrd p)])) _ = _
      rw [tupC_mk, consC_cons, asSl_mk, consC_cons, asBool_mk, endC_nil]
theorem rcheck_spec {a : Option Addr} {n c : Nat} {p : List Int} (hp : Ints h a n c p) : run 25 [.slice a n c] h = some (.int .i64 (if isOrd p then 0 else 1), h) := by
  rw [eq25, is_spec hp, runC_some, asBool_mk]
  cases isOrd p <;> rfl

/-! ### Plain, the plain answer -/
theorem rplain_loop {lo : Nat} (hlo : h0.next = lo) {n : Nat} (hn : n ≤ 12) :
    ∀ (j k : Nat) (h : Hp) (a : Option Addr) (c : Nat), j + k = n → Mine h lo a k c (intCells (upto k)) → Keeps h0 h →
      ∃ h' a2 c2, L38_4 a k c (n : Int) (k : Int) h = some (.tuple #[.slice a2 n c2, .bool true], h') ∧ Keeps h0 h' ∧ Mine h' lo a2 n c2 (intCells (upto n)) := by
  intro j
  induction j with
  | zero =>
    intro k h a c hk hm hkp
    have : k = n := by omega
    subst this
    refine ⟨h, a, c, ?_, hkp, hm⟩
    rw [L38_4_eq, decide_eq_false (by omega), cond_false]
  | succ j ih =>
    intro k h a c hk hm hkp
    obtain ⟨h', r', e1, e2, e3, _⟩ := append1 hkp.ok (by have := hkp.next; omega) hm (bytes := 8) (v := .int .i64 (k : Int)) rfl (by omega) (by omega)
    rw [L38_4_eq, decide_eq_true (by omega), cond_true, e1, wrap_nat (by omega)]
    refine ih (k + 1) h' _ _ (by omega) ?_ (e3 _ hkp (by omega))
    rw [upto_succ, intCells_append]
    exact e2
theorem rplain_spec (hok : HpOk h) (n : Int) : Gives (run 20 [.int .i64 n] h) h (plainL n) (plainE n) := by
  rw [eq20]
  unfold plainL plainE
  by_cases h1 : n < 0
  · rw [decide_eq_true h1, cond_true, if_neg (by omega), if_neg (by omega)]; exact Gives.fail hok 1
  · rw [decide_eq_false h1, cond_false]
    by_cases h2 : 12 < n
    · rw [decide_eq_true h2, cond_true, if_neg (by omega), if_neg (by omega)]; exact Gives.fail hok 1
    · rw [decide_eq_false h2, cond_false, if_pos (by omega), if_pos (by omega)]
      obtain ⟨m, rfl⟩ : ∃ m : Nat, n = m := ⟨n.toNat, by omega⟩
      obtain ⟨h', a2, c2, e1, e2, e3⟩ := rplain_loop (h0 := h) rfl (n := m) (by omega) m 0 h none 0 (by omega) (by simp [upto, intCells]; exact Mine.nil _ _) (Keeps.refl hok)
      have e1' : L38_4 none 0 0 (m : Int) 0 h = _ := e1
      rw [eq38, decide_eq_true (by omega), cond_true, e1', runC_some]
      show Gives (tupC (.tuple (List.toArray [Value.slice a2 m c2, Value.bool true])) _) _ _ _
      rw [tupC_mk, consC_cons, asSl_mk, consC_cons, asBool_mk, endC_nil]
      exact ⟨h', a2, m, c2, rfl, e2, by rw [Int.toNat_natCast]; exact e3⟩

/-! ### Inverse -/
def invL (p : List Int) : List Int := (upto p.length).map fun i => (p.idxOf i : Int)
theorem nodup_getElem {α : Type} {l : List α} (hn : l.Nodup) {i j : Nat} (hi : i < l.length) (hj : j < l.length) (he : l[i] = l[j]) : i = j := by
  have hp := List.pairwise_iff_getElem.1 hn
  rcases Nat.lt_trichotomy i j with h | h | h
  · exact absurd he (hp i j hi hj h)
  · exact h
  · exact absurd he.symm (hp j i hj hi h)
theorem idxOf_getElem_of_nodup {l : List Int} (hn : l.Nodup) {i : Nat} (hi : i < l.length) : l.idxOf l[i] = i := by
  have h1 : l.idxOf l[i] < l.length := List.idxOf_lt_length_iff.2 (List.getElem_mem hi)
  exact nodup_getElem hn h1 hi (List.getElem_idxOf h1)
theorem inv_loop {F : Option Addr → Nat → Nat → Option Addr → Nat → Nat → Int → Int → Hp → Option (Value × Hp)}
    (hF : ∀ oa on oc ta tn tc t17 t18 h, F oa on oc ta tn tc t17 t18 h = (bif (decide (t18 < t17)) then
      atC ta tn 1 t18 fun d_1 => ldI h .i64 d_1 fun x_2 => atC oa on 1 x_2 fun d_3 => h.stC d_3 [(.int .i64 t18)] fun h_4 => F oa on oc ta tn tc t17 (IntKind.i64.wrap (t18 + 1)) h_4
      else some ((.tuple #[(.slice oa on oc), (.int .i64 0)]), h)))
    {lo : Nat} (hlo : h0.next = lo) (hok : HpOk h0) {a b : Option Addr} {n c d : Nat} {p : List Int} (hp : Ints h0 b n d p) (ho : isOrd p = true) :
    ∀ (j k : Nat) (h : Hp) (cs : List Value), j + k = n → Mine h lo a n c cs → (∀ i (hi : i < p.length), i < k → cs[p[i].toNat]? = some (.int .i64 i)) → Keeps h0 h →
      ∃ h', F a n c b n d (n : Int) (k : Int) h = some (.tuple #[.slice a n c, .int .i64 0], h') ∧ Keeps h0 h' ∧ Mine h' lo a n c (intCells (invL p)) := by
  have hpn := hp.len
  have hle := ord_le ho
  intro j
  induction j with
  | zero =>
    intro k h cs hk hm hc hkp
    have hl := hm.len
    have : cs = intCells (invL p) := by
      apply List.ext_getElem
      · rw [intCells_length, invL, List.length_map, upto_length]; omega
      · intro i h1 h2
        have hi : (i : Int) ∈ p := (ord_mem ho).2 ⟨by omega, by omega⟩
        have h3 := List.idxOf_lt_length_iff.2 hi
        have h4 := hc (p.idxOf (i : Int)) h3 (by omega)
        rw [List.getElem_idxOf h3, Int.toNat_natCast, List.getElem?_eq_getElem h1] at h4
        have h5 := Option.some.inj h4
        rw [h5]
        simp [intCells, invL, upto]
    subst this
    refine ⟨h, ?_, hkp, hm⟩
    rw [hF, decide_eq_false (by omega), cond_false]
  | succ j ih =>
    intro k h cs hk hm hc hkp
    have hl := hm.len
    have hkl : k < p.length := by omega
    have hx := (ord_mem ho).1 (List.getElem_mem hkl)
    obtain ⟨m, hxm⟩ : ∃ m : Nat, p[k] = m := ⟨p[k].toNat, by omega⟩
    have hmc : m < cs.length := by omega
    obtain ⟨h', s1, s2, s3, _⟩ := hm.st hmc (v := .int .i64 k) rfl
    rw [hF, decide_eq_true (by omega), cond_true, (hp.keeps hok hkp).get hkl, hxm, hm.at hmc, s1, wrap_nat (by omega)]
    refine ih (k + 1) h' _ (by omega) s2 (fun i hi hik => ?_) (s3 _ hkp (by omega))
    by_cases he : i = k
    · subst he
      rw [hxm, Int.toNat_natCast, List.getElem?_set_self hmc]
    · have hne : p[i] ≠ p[k] := fun hh => he (nodup_getElem (ord_nodup ho) hi hkl hh)
      have hxi := (ord_mem ho).1 (List.getElem_mem hi)
      rw [List.getElem?_set_ne (by omega)]
      exact hc i hi (by omega)
def inverseL (p : List Int) : List Int := if isOrd p = true then invL p else []
def ordE (p : List Int) : Int := if isOrd p = true then 0 else 1
theorem inverse_spec (hok : HpOk h) {a : Option Addr} {n c : Nat} {p : List Int} (hp : Ints h a n c p) : Gives (run 19 [.slice a n c] h) h (inverseL p) (ordE p) := by
  rw [eq19, check_spec hp, runC_some, asInt_mk]
  have hpn := hp.len
  unfold inverseL ordE
  cases ho : isOrd p with
  | false =>
    simp only [Bool.false_eq_true, if_false]
    rw [decide_eq_false (by omega), Bool.not_false, cond_true]
    exact Gives.fail hok 1
  | true =>
    simp only [if_true, decide_true, Bool.not_true, cond_false]
    have hle := ord_le ho
    obtain ⟨h', e1, e2, e3⟩ := mk_mine (h := h) (z := .int .i64 0) rfl (bytes := 8) (n := n) (by omega)
    rw [e1]
    obtain ⟨h2, f1, f2, f3⟩ := inv_loop (h0 := h) L19_6_eq rfl hok hp ho n 0 h' _ (by omega) e2 (fun i hi h0 => by omega) (e3 h (Keeps.refl hok))
    exact ⟨h2, _, _, _, f1, f2, f3⟩
theorem rinverse_spec (hok : HpOk h) {a : Option Addr} {n c : Nat} {p : List Int} (hp : Ints h a n c p) : Gives (run 21 [.slice a n c] h) h (inverseL p) (ordE p) := by
  rw [eq21, is_spec hp, runC_some, asBool_mk]
  have hpn := hp.len
  unfold inverseL ordE
  cases ho : isOrd p with
  | false =>
    simp only [Bool.false_eq_true, if_false, Bool.not_false, cond_true]
    exact Gives.fail hok 1
  | true =>
    simp only [if_true, Bool.not_true, cond_false]
    have hle := ord_le ho
    obtain ⟨h', e1, e2, e3⟩ := mk_mine (h := h) (z := .int .i64 0) rfl (bytes := 8) (n := n) (by omega)
    rw [e1]
    obtain ⟨h2, f1, f2, f3⟩ := inv_loop (h0 := h) L21_5_eq rfl hok hp ho n 0 h' _ (by omega) e2 (fun i hi h0 => by omega) (e3 h (Keeps.refl hok))
    exact ⟨h2, _, _, _, f1, f2, f3⟩

/-! ### After, Turn, the plain answers -/
theorem pick_loop {F : Option Addr → Nat → Nat → Option Addr → Nat → Nat → Option Addr → Nat → Nat → Int → Int → Hp → Option (Value × Hp)}
    (hF : ∀ pa pn pc oa on oc ta tn tc t23 t24 h, F pa pn pc oa on oc ta tn tc t23 t24 h = (bif (decide (t24 < t23)) then
      atC ta tn 1 t24 fun d_1 => ldI h .i64 d_1 fun x_2 => atC pa pn 1 x_2 fun d_3 => ldI h .i64 d_3 fun x_4 => lt (h.alloc [(.int .i64 x_4)] 1 []) fun h_5 => srcC h_5 1 1 (.slice (some ⟨h.next, 0, none⟩) 1 0) fun vs_6 =>
      growT h_5 1 8 oa on oc 1 vs_6 fun a_7 n_8 c_9 h_10 => F pa pn pc a_7 n_8 c_9 ta tn tc t23 (IntKind.i64.wrap (t24 + 1)) h_10
      else some ((.tuple #[(.slice oa on oc), (.int .i64 0)]), h)))
    {lo : Nat} (hlo : h0.next = lo) {a b : Option Addr} {n m c d : Nat} {p l : List Int} (hok : HpOk h0) (hp : Ints h0 a n c p) (hl : Ints h0 b m d l) (hr : ∀ x ∈ p, 0 ≤ x ∧ x < l.length) (hn : n ≤ 1000000) :
    ∀ (j k : Nat) (h : Hp) (oa : Option Addr) (oc : Nat), j + k = n → Mine h lo oa k oc (intCells (pickL (p.take k) l)) → Keeps h0 h →
      ∃ h' a2 c2, F b m d oa k oc a n c (n : Int) (k : Int) h = some (.tuple #[.slice a2 n c2, .int .i64 0], h') ∧ Keeps h0 h' ∧ Mine h' lo a2 n c2 (intCells (pickL p l)) := by
  have hpn := hp.len
  intro j
  induction j with
  | zero =>
    intro k h oa oc hk hm hkp
    have : k = n := by omega
    subst this
    rw [List.take_of_length_le (by omega)] at hm
    refine ⟨h, oa, oc, ?_, hkp, hm⟩
    rw [hF, decide_eq_false (by omega), cond_false]
  | succ j ih =>
    intro k h oa oc hk hm hkp
    have hpk : k < p.length := by omega
    have hx := hr _ (List.getElem_mem hpk)
    obtain ⟨q, hxq⟩ : ∃ q : Nat, p[k] = q := ⟨p[k].toNat, by omega⟩
    have hql : q < l.length := by omega
    rw [hF, decide_eq_true (by omega), cond_true, (hp.keeps hok hkp).get hpk, hxq, (hl.keeps hok hkp).get hql]
    have hv : atL l p[k] = l[q] := by rw [hxq]; simp [atL, hql]
    obtain ⟨h', r', e1, e2, e3, _⟩ := append1 hkp.ok (by have := hkp.next; omega) hm (bytes := 8) (v := .int .i64 l[q]) rfl (by omega) (by omega)
    rw [e1, wrap_nat (by omega)]
    refine ih (k + 1) h' _ _ (by omega) ?_ (e3 _ hkp (by omega))
    rw [List.take_succ_eq_append_getElem hpk, pickL, List.map_append, intCells_append]
    simp only [List.map_cons, List.map_nil, hv]
    exact e2
theorem rturn_spec (hok : HpOk h) {a b : Option Addr} {n m c d : Nat} {p l : List Int} (hl : Ints h b m d l) (hp : Ints h a n c p) :
    Gives (run 24 [.slice b m d, .slice a n c] h) h (turnL l p) (turnE l p) := by
  have h1 := hp.len
  have h2 := hl.len
  rw [eq24, is_spec hp, runC_some, asBool_mk]
  unfold turnL turnE
  cases ho : isOrd p with
  | false =>
    simp only [Bool.false_eq_true, false_and, if_false, Bool.not_false, cond_true]
    exact Gives.fail hok 1
  | true =>
    have hle := ord_le ho
    simp only [true_and, if_true, Bool.not_true, cond_false]
    by_cases he : p.length = l.length
    · rw [if_pos he, if_pos he, decide_eq_true (by omega), Bool.not_true, cond_false]
      obtain ⟨h', a2, c2, e1, e2, e3⟩ := pick_loop (h0 := h) L24_7_eq rfl hok hp hl (fun x hx => by have := (ord_mem ho).1 hx; omega) (by omega) n 0 h none 0 (by omega) (by simp [pickL, intCells]; exact Mine.nil _ _) (Keeps.refl hok)
      exact ⟨h', _, _, _, e1, e2, e3⟩
    · rw [if_neg he, if_neg he, decide_eq_false (by omega), Bool.not_false, cond_true]
      exact Gives.fail hok 4
theorem rafter_spec (hok : HpOk h) {a b : Option Addr} {n m c d : Nat} {p q : List Int} (hp : Ints h a n c p) (hq : Ints h b m d q) :
    Gives (run 22 [.slice a n c, .slice b m d] h) h (afterL p q) (afterE p q) := by
  have h1 := hp.len
  have h2 := hq.len
  rw [eq22, is_spec hp, runC_some, asBool_mk, is_spec hq]
  unfold afterL afterE
  cases ho : isOrd p with
  | false =>
    simp only [Bool.false_eq_true, false_and, if_false, Bool.not_false, cond_true]
    exact Gives.fail hok 1
  | true =>
    have hle := ord_le ho
    simp only [true_and, if_true, Bool.not_true, cond_false, runC_some, asBool_mk]
    cases hoq : isOrd q with
    | false =>
      simp only [Bool.false_eq_true, false_and, if_false, Bool.not_false, cond_true]
      exact Gives.fail hok 1
    | true =>
      have hle := ord_le hoq
      simp only [true_and, if_true, Bool.not_true, cond_false]
      by_cases he : q.length = p.length
      · rw [if_pos he, if_pos he, decide_eq_true (by omega), Bool.not_true, cond_false]
        obtain ⟨h', a2, c2, e1, e2, e3⟩ := pick_loop (h0 := h) L22_7_eq rfl hok hq hp (fun x hx => by have := (ord_mem hoq).1 hx; omega) (by omega) m 0 h none 0 (by omega) (by simp [pickL, intCells]; exact Mine.nil _ _) (Keeps.refl hok)
        exact ⟨h', _, _, _, e1, e2, e3⟩
      · rw [if_neg he, if_neg he, decide_eq_false (by omega), Bool.not_false, cond_true]
        exact Gives.fail hok 4
end
end Go.Proofs.Ytcdeeppiljcddaa.AM
