/- Specs of functions of perm: lists held against one another, orders checked. Conditions: none. -/
import Derived.Test.YtcdeeppiljcddaaAm24
import Derived.Test.YtcdeeppiljcddaaEqs
namespace Go.Proofs.Ytcdeeppiljcddaa.AM
open Go
section
variable {h : Hp}

theorem runC_some {R : Type} (v : Value) (h : Hp) (K : Value → Hp → Option R) : runC (some (v, h)) K = K v h := rfl
theorem tupC_mk {R : Type} (l : List Value) (K : List Value → Option R) : tupC (.tuple l.toArray) K = K l := rfl
theorem consC_cons {R : Type} (v : Value) (l : List Value) (K : Value → List Value → Option R) : consC (v :: l) K = K v l := rfl
theorem endC_nil {R : Type} (K : Option R) : endC [] K = K := rfl
theorem asInt_mk {R : Type} (k : IntKind) (x : Int) (K : Int → Option R) : asIntC k (.int k x) K = K x := by simp [asIntC]
theorem asBool_mk {R : Type} (x : Bool) (K : Bool → Option R) : asBoolC (.bool x) K = K x := rfl
theorem asSl_mk {R : Type} (a : Option Addr) (n c : Nat) (K : Option Addr → Nat → Nat → Option R) : asSliceC (.slice a n c) K = K a n c := rfl

/-! ### Equal -/
theorem equal_loop {a b : Option Addr} {n m c d : Nat} {p q : List Int} (ha : Ints h a n c p) (hb : Ints h b m d q) (hl : p.length = q.length) (hs : n < 4611686018427387904) :
    ∀ (j k : Nat), j + k = p.length → L18_4 a n c b m d (n : Int) (k : Int) h = some (.bool (decide (p.drop k = q.drop k)), h) := by
  intro j
  have hn := ha.len
  induction j with
  | zero =>
    intro k hk
    rw [L18_4_eq]
    have : ¬ ((k : Int) < (n : Int)) := by omega
    rw [decide_eq_false this, cond_false, List.drop_of_length_le (by omega), List.drop_of_length_le (by omega)]
    simp
  | succ j ih =>
    intro k hk
    rw [L18_4_eq]
    have : (k : Int) < (n : Int) := by omega
    rw [decide_eq_true this, cond_true, ha.get (i := k) (by omega), hb.get (i := k) (by omega)]
    have hd : p.drop k = q.drop k ↔ p[k]'(by omega) = q[k]'(by omega) ∧ p.drop (k + 1) = q.drop (k + 1) := by
      rw [List.drop_eq_getElem_cons (by omega : k < p.length), List.drop_eq_getElem_cons (by omega : k < q.length), List.cons.injEq]
    by_cases he : p[k]'(by omega) = q[k]'(by omega)
    · rw [decide_eq_true he, Bool.not_true, cond_false, wrap_nat (by omega), ih (k + 1) (by omega)]
      have : p.drop k = q.drop k ↔ p.drop (k + 1) = q.drop (k + 1) := by rw [hd]; simp [he]
      rw [decide_eq_decide.2 this]
    · rw [decide_eq_false he, Bool.not_false, cond_true, decide_eq_false]
      rw [hd]
      exact fun hh => he hh.1
theorem equal_spec {a b : Option Addr} {n m c d : Nat} {p q : List Int} (ha : Ints h a n c p) (hb : Ints h b m d q) (hs : n < 4611686018427387904) :
    run 18 [.slice a n c, .slice b m d] h = some (.bool (decide (p = q)), h) := by
  rw [eq18]
  have h1 := ha.len
  have h2 := hb.len
  by_cases hl : n = m
  · rw [decide_eq_true (by omega), Bool.not_true, cond_false]
    have := equal_loop ha hb (by omega) hs p.length 0 (by omega)
    simpa using this
  · rw [decide_eq_false (by omega), Bool.not_false, cond_true, decide_eq_false]
    intro he
    subst he
    omega

/-! ### Check -/
/-- A list is an order. -/
def isOrd (p : List Int) : Bool := decide (p.length ≤ 12) && (List.range p.length).all fun i => p.contains (i : Int)
theorem isOrd_iff {p : List Int} : isOrd p = true ↔ p.length ≤ 12 ∧ ∀ i : Nat, i < p.length → (i : Int) ∈ p := by
  simp [isOrd, List.all_eq_true]

def maskOf (l : List Int) : Nat := l.foldl (fun m x => m ||| 2 ^ x.toNat) 0
theorem maskOf_append (l : List Int) (x : Int) : maskOf (l ++ [x]) = maskOf l ||| 2 ^ x.toNat := by simp [maskOf]
theorem maskOf_bit (l : List Int) (i : Nat) : (maskOf l).testBit i = l.any fun x => decide (x.toNat = i) := by
  have : ∀ (l : List Int) (m : Nat), (l.foldl (fun m x => m ||| 2 ^ x.toNat) m).testBit i = (m.testBit i || l.any fun x => decide (x.toNat = i)) := by
    intro l
    induction l with
    | nil => intro m; simp
    | cons x l ih =>
      intro m
      rw [List.foldl_cons, ih, Nat.testBit_or, Nat.testBit_two_pow, List.any_cons, Bool.or_assoc]
  rw [maskOf, this]; simp
theorem maskOf_lt {l : List Int} {n : Nat} (h : ∀ x ∈ l, x < n) (hn : 0 < n) : maskOf l < 2 ^ n := by
  apply Nat.lt_pow_two_of_testBit
  intro i hi
  rw [maskOf_bit]
  simp only [List.any_eq_false, decide_eq_true_eq]
  intro x hx he
  have := h x hx
  omega
theorem or_nat {m x : Nat} (hm : m < 8192) (hx : x < 13) : bitsI .or .i64 (m : Int) (shlI .i64 1 (x : Int)) = ((m ||| 2 ^ x : Nat) : Int) := by
  have h2 : 2 ^ x < 8192 := by
    have : 2 ^ x ≤ 2 ^ 12 := Nat.pow_le_pow_right (by omega) (by omega)
    omega
  have hs : shlI .i64 1 (x : Int) = ((2 ^ x : Nat) : Int) := by
    unfold shlI
    have : min (x : Int).toNat IntKind.i64.bits = x := by
      show min (x : Int).toNat 64 = x
      omega
    rw [this, Int.one_mul, wrap_in]
    · simp
    · have : (0 : Int) ≤ (2 : Int) ^ x := Int.pow_nonneg (by omega)
      omega
    · have : (2 : Int) ^ x = ((2 ^ x : Nat) : Int) := by simp
      omega
  rw [hs]
  unfold bitsI
  simp only
  have e : ∀ y : Nat, y < 8192 → (BitVec.ofInt 64 (y : Int)).toNat = y := by
    intro y hy
    simp
    omega
  have hb : IntKind.i64.bits = 64 := rfl
  rw [hb, BitVec.toNat_or, e m hm, e _ h2]
  have : m ||| 2 ^ x < 2 ^ 13 := Nat.or_lt_two_pow (by omega) (by omega)
  rw [wrap_in (by omega) (by omega)]

theorem full_iff {p : List Int} (hr : ∀ x ∈ p, 0 ≤ x ∧ x < p.length) : maskOf p = 2 ^ p.length - 1 ↔ ∀ i : Nat, i < p.length → (i : Int) ∈ p := by
  have hbit : ∀ i : Nat, (maskOf p).testBit i = decide ((i : Int) ∈ p) := by
    intro i
    rw [maskOf_bit, Bool.eq_iff_iff]
    simp only [List.any_eq_true, decide_eq_true_eq]
    constructor
    · rintro ⟨x, hx, rfl⟩
      have := hr x hx
      rwa [Int.toNat_of_nonneg this.1]
    · intro hi
      exact ⟨_, hi, by simp⟩
  constructor
  · intro he i hi
    have := hbit i
    rw [he, Nat.testBit_two_pow_sub_one, decide_eq_true hi] at this
    exact of_decide_eq_true this.symm
  · intro ha
    apply Nat.eq_of_testBit_eq
    intro i
    rw [hbit, Nat.testBit_two_pow_sub_one]
    by_cases hi : i < p.length
    · rw [decide_eq_true hi, decide_eq_true (ha i hi)]
    · rw [decide_eq_false hi, decide_eq_false]
      intro hm
      have := hr _ hm
      omega

/-- The numbers below n. -/
def upto (n : Nat) : List Int := (List.range n).map Int.ofNat
theorem upto_nodup (n : Nat) : (upto n).Nodup := by
  unfold upto List.Nodup
  rw [List.pairwise_map]
  exact List.Pairwise.imp (fun h he => h (Int.ofNat.inj he)) List.nodup_range
theorem mem_upto {n : Nat} {x : Int} : x ∈ upto n ↔ 0 ≤ x ∧ x < n := by
  unfold upto
  rw [List.mem_map]
  constructor
  · rintro ⟨i, hi, rfl⟩
    have := List.mem_range.1 hi
    constructor
    · exact Int.natCast_nonneg i
    · exact Int.ofNat_lt.2 this
  · rintro ⟨h0, h1⟩
    exact ⟨x.toNat, List.mem_range.2 (by omega), Int.toNat_of_nonneg h0⟩
theorem upto_length (n : Nat) : (upto n).length = n := by simp [upto]
theorem ord_range {p : List Int} (hall : ∀ i : Nat, i < p.length → (i : Int) ∈ p) : ∀ x ∈ p, 0 ≤ x ∧ x < p.length := by
  intro x hx
  rw [← mem_upto]
  refine Classical.byContradiction fun hn => ?_
  have h1 : (x :: upto p.length).Nodup := List.nodup_cons.2 ⟨hn, upto_nodup _⟩
  have h2 : (x :: upto p.length) ⊆ p := by
    intro y hy
    rcases List.mem_cons.1 hy with rfl | hy
    · exact hx
    · have := mem_upto.1 hy
      have h3 := hall y.toNat (by omega)
      rwa [Int.toNat_of_nonneg this.1] at h3
  have := List.Nodup.length_le_of_subset h1 h2
  rw [List.length_cons, upto_length] at this
  omega
theorem check_loop {a : Option Addr} {n c : Nat} {p : List Int} (ha : Ints h a n c p) (hs : n ≤ 12) :
    ∀ (j k : Nat), j + k = p.length → (∀ x ∈ p.take k, 0 ≤ x ∧ x < n) →
      L13_5 a n c (maskOf (p.take k) : Nat) a n c (n : Int) (k : Int) h = some (.int .i64 (if isOrd p then 0 else 1), h) := by
  intro j
  have hn := ha.len
  induction j with
  | zero =>
    intro k hk hr
    rw [L13_5_eq]
    have hx : ¬ ((k : Int) < (n : Int)) := by omega
    rw [List.take_of_length_le (by omega)] at hr ⊢
    have h0 : (0 : Int) ≤ n := by omega
    rw [decide_eq_false hx, cond_false, needC, decide_eq_true h0, cond_true]
    have e1 : IntKind.i64.wrap (shlI .i64 1 (n : Int) - 1) = ((2 ^ n - 1 : Nat) : Int) := by
      have h2 : 2 ^ n ≤ 2 ^ 12 := Nat.pow_le_pow_right (by omega) hs
      have h3 : 0 < 2 ^ n := Nat.pow_pos (by omega)
      unfold shlI
      have : min (n : Int).toNat IntKind.i64.bits = n := by
        show min (n : Int).toNat 64 = n
        omega
      have h4 : (2 : Int) ^ n = ((2 ^ n : Nat) : Int) := by simp
      rw [this, Int.one_mul, h4, wrap_in (x := ((2 ^ n : Nat) : Int)) (by omega) (by omega), wrap_in (by omega) (by omega)]
      omega
    rw [e1]
    have e2 := full_iff (p := p) (fun x hx => by have := hr x hx; omega)
    rw [← hn] at e2
    by_cases hf : maskOf p = 2 ^ n - 1
    · have : isOrd p = true := isOrd_iff.2 ⟨by omega, by rw [← hn]; exact e2.1 hf⟩
      rw [hf, decide_eq_true rfl, this]
      rfl
    · have : isOrd p = false := by
        rw [← Bool.not_eq_true, isOrd_iff]
        intro hh
        exact hf (e2.2 (by rw [hn]; exact hh.2))
      rw [this, decide_eq_false (by omega)]
      rfl
  | succ j ih =>
    intro k hk hr
    rw [L13_5_eq]
    have hx : (k : Int) < (n : Int) := by omega
    rw [decide_eq_true hx, cond_true, ha.get (i := k) (by omega)]
    have hkl : k < p.length := by omega
    have bad : ¬ (0 ≤ p[k] ∧ p[k] < n) → isOrd p = false := by
      intro hb
      rw [← Bool.not_eq_true, isOrd_iff]
      rintro ⟨_, hall⟩
      exact hb (by rw [hn]; exact ord_range hall _ (List.getElem_mem hkl))
    by_cases h1 : p[k] < 0
    · rw [decide_eq_true h1, cond_true, bad (by omega)]; rfl
    · rw [decide_eq_false h1, cond_false]
      by_cases h2 : (n : Int) ≤ p[k]
      · rw [decide_eq_true h2, cond_true, bad (by omega)]; rfl
      · rw [decide_eq_false h2, cond_false, needC, decide_eq_true (by omega), cond_true]
        have e3 : p[k] = ((p[k].toNat : Nat) : Int) := by omega
        have e4 : p.take (k + 1) = p.take k ++ [p[k]] := by rw [List.take_succ_eq_append_getElem hkl]
        have hm : maskOf (p.take k) < 8192 := by
          have := maskOf_lt (l := p.take k) (n := 13) (fun x hx => by have := hr x hx; omega) (by omega)
          omega
        rw [wrap_nat (by omega)]
        have e5 := or_nat (m := maskOf (p.take k)) (x := p[k].toNat) hm (by omega)
        rw [← e3] at e5
        rw [e5, ← maskOf_append, ← e4]
        refine ih (k + 1) (by omega) fun x hx => ?_
        rw [e4, List.mem_append, List.mem_singleton] at hx
        rcases hx with hx | rfl
        · exact hr x hx
        · omega
theorem check_spec {a : Option Addr} {n c : Nat} {p : List Int} (ha : Ints h a n c p) : run 13 [.slice a n c] h = some (.int .i64 (if isOrd p then 0 else 1), h) := by
  rw [eq13]
  have hn := ha.len
  by_cases hl : 12 < n
  · rw [decide_eq_true (by omega), cond_true]
    have : isOrd p = false := by simp [isOrd]; omega
    rw [this]; rfl
  · rw [decide_eq_false (by omega), cond_false]
    have := check_loop ha (by omega) p.length 0 (by omega) (by simp)
    simpa [maskOf] using this
end
end Go.Proofs.Ytcdeeppiljcddaa.AM
