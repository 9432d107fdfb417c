/- Specs of functions of perm: whether an order is odd, its rank, parts of lists. Conditions: none. -/
import Derived.Test.YtcdeeppiljcddaaSp9
namespace Go.Proofs.Ytcdeeppiljcddaa.AM
open Go
section
variable {h h0 : Hp}
theorem runC_b {R : Type} (b : Bool) (x : Int) (h : Hp) (K : Bool → Int → Hp → Option R) :
    (runC (some (.tuple #[.bool b, .int .i64 x], h)) fun v h2 => tupC v fun l3 => consC l3 fun v4 l5 => asBoolC v4 fun b => consC l5 fun v9 l10 => asIntC .i64 v9 fun x => endC l10 (K b x h2)) = K b x h := by
  rw [runC_some]
  show tupC (.tuple (List.toArray [Value.bool b, Value.int .i64 x])) _ = _
  rw [tupC_mk, consC_cons, asBool_mk, consC_cons, asInt_mk, endC_nil]
theorem runC_i {R : Type} (y : Int) (x : Int) (h : Hp) (K : Int → Int → Hp → Option R) :
    (runC (some (.tuple #[.int .i64 y, .int .i64 x], h)) fun v h2 => tupC v fun l3 => consC l3 fun v4 l5 => asIntC .i64 v4 fun y => consC l5 fun v9 l10 => asIntC .i64 v9 fun x => endC l10 (K y x h2)) = K y x h := by
  rw [runC_some]
  show tupC (.tuple (List.toArray [Value.int .i64 y, Value.int .i64 x])) _ = _
  rw [tupC_mk, consC_cons, asInt_mk, consC_cons, asInt_mk, endC_nil]

/-! ### Odd -/
def oddStep (o : Bool) (c : List Int) : Bool := !(o == decide (c.length % 2 = 0))
def oddC (l : List (List Int)) : Bool := l.foldl oddStep false
theorem odd_loop {a : Option Addr} {n c : Nat} {l : List (List Int)} (hs : Lists h a n c l) (hn : n ≤ 1000000) (e : Int) :
    ∀ (j k : Nat) (o : Bool), j + k = n → L15_4 e o a n c (n : Int) (k : Int) h = some (.tuple #[.bool ((l.drop k).foldl oddStep o), .int .i64 e], h) := by
  have hl := hs.len
  intro j
  induction j with
  | zero =>
    intro k o hk
    rw [L15_4_eq, decide_eq_false (by omega), cond_false, List.drop_of_length_le (by omega)]
    rfl
  | succ j ih =>
    intro k o hk
    have hkl : k < l.length := by omega
    obtain ⟨b, m, d, h1, h2⟩ := hs.get hkl
    have hm := h2.len
    rw [L15_4_eq, decide_eq_true (by omega), cond_true, hs.at hkl, ldSl_of h1, wrap_nat (by omega), ih (k + 1) _ (by omega), List.drop_eq_getElem_cons hkl, List.foldl_cons]
    have : (!(o == decide (Int.tmod (m : Int) 2 = 0))) = oddStep o l[k] := by
      unfold oddStep
      rw [← hm]
      congr 2
      have h3 : Int.tmod (m : Int) 2 = ((m % 2 : Nat) : Int) := rfl
      rw [h3]
      exact decide_eq_decide.2 (by omega)
    rw [this]
def oddL (p : List Int) : Bool := oddC (cyclesL p)
theorem cycRun_length (n : Nat) : ∀ (is : List Nat) (s : List Int × List (List Int)), (cycRun n is s).2.length ≤ s.2.length + is.length
  | [], s => by simp [cycRun]
  | i :: is, s => by
    have := cycRun_length n is (cycStep n s i)
    unfold cycRun at this ⊢
    rw [List.foldl_cons]
    have h2 : (cycStep n s i).2.length ≤ s.2.length + 1 := by
      unfold cycStep
      simp only
      split
      · omega
      · simp
    rw [List.length_cons]
    omega
theorem cyclesL_length (p : List Int) : (cyclesL p).length ≤ 12 := by
  unfold cyclesL
  cases ho : isOrd p with
  | false => simp
  | true =>
    have := cycRun_length p.length (List.range p.length) (p, [])
    have h2 := ord_le ho
    simp only [if_true]
    unfold cycL
    rw [List.length_range] at this
    simp at this
    omega
theorem odd_spec (hok : HpOk h) {a : Option Addr} {n c : Nat} {p : List Int} (hp : Ints h a n c p) : ∃ h', run 15 [.slice a n c] h = some (.tuple #[.bool (oddL p), .int .i64 (ordE p)], h') ∧ Keeps h h' := by
  rw [eq15]
  obtain ⟨h1, a1, n1, c1, k1, m1, e1⟩ := runC_givesL (R := Value × Hp) (cycles_spec hok hp)
  rw [e1 (fun a n c x h => _)]
  have hl := m1.len
  have h2 := cyclesL_length p
  have := odd_loop m1 (by omega) (ordE p) n1 0 false (by omega)
  rw [List.drop_zero] at this
  exact ⟨h1, this, k1⟩

/-! ### Parts of slices -/
theorem Sl.cutFrom {α : Type} {E : Hp → Value → α → Prop} {a : Option Addr} {n c : Nat} {l : List α} (hs : Sl E h a n c l) {x : Nat} (hx : x ≤ n) :
    ∃ a' c', (∀ (R : Type) (K : Option Addr → Nat → Nat → Option R), cutT h a n c 1 (some (x : Int)) none K = K a' (n - x) c') ∧ Sl E h a' (n - x) c' (l.drop x) := by
  have hl := hs.len
  cases a with
  | none =>
    obtain ⟨h1, h2⟩ := hs.ok
    subst h1 h2
    have : x = 0 := by omega
    subst this
    refine ⟨none, 0, fun R K => rfl, ?_⟩
    rw [List.drop_zero]
    exact hs
  | some ad =>
    rcases hs.ok with ⟨h1, h2⟩ | ⟨h1, h2, b, h3, h4⟩
    · have hadd : ∀ i, i < n - x → ((bif decide (c = x) then ad else ad.add (x * 1)).add i) = ad.add (x + i) := by
        intro i hi
        have : decide (c = x) = false := decide_eq_false (by omega)
        rw [this, cond_false]
        unfold Addr.add
        by_cases hx0 : x * 1 = 0
        · have : x = 0 := by omega
          subst this
          simp
        · by_cases hi0 : i = 0
          · subst hi0
            have : ¬ x = 0 := by omega
            simp [this]
          · have h5 : ¬ x + i = 0 := by omega
            rw [if_neg hx0, if_neg hi0, if_neg h5]
            simp; omega
      have hblk : (bif decide (c = x) then ad else ad.add (x * 1)).block = ad.block := by
        cases decide (c = x)
        · rw [cond_false]; unfold Addr.add; split <;> rfl
        · rfl
      refine ⟨some (bif decide (c = x) then ad else ad.add (x * 1)), c - x, fun R K => ?_, by rw [List.length_drop]; omega, .inl ⟨by rw [hblk]; exact h1, by omega⟩, fun i hi => ?_⟩
      · unfold cutT needC
        simp [h1, h2, hx]
      · rw [List.length_drop] at hi
        obtain ⟨ad', v, g1, g2, g3⟩ := hs.el (x + i) (by omega)
        cases g1
        refine ⟨_, v, rfl, ?_, by rw [List.getElem_drop]; exact g3⟩
        rw [hadd i (by omega)]
        exact g2
    · have hadd : ∀ i, (ad.add (x * 1)).add i = ad.add (x + i) := by
        intro i
        obtain ⟨bl, off, sp⟩ := ad
        simp only at h2
        subst h2
        unfold Addr.add
        by_cases hx0 : x = 0
        · subst hx0; simp
        · by_cases hi0 : i = 0
          · subst hi0; simp [hx0]
          · have h5 : ¬ x + i = 0 := by omega
            rw [Nat.mul_one, if_neg hx0, if_neg hi0, if_neg h5]
            simp; omega
      have hblk : (ad.add (x * 1)).block = ad.block ∧ (ad.add (x * 1)).spot = none := by
        unfold Addr.add; split
        · exact ⟨rfl, h2⟩
        · exact ⟨rfl, rfl⟩
      refine ⟨some (ad.add (x * 1)), 0, fun R K => ?_, by rw [List.length_drop]; omega, .inr ⟨by rw [hblk.1]; exact h1, hblk.2, b, by rw [hblk.1]; exact h3, h4⟩, fun i hi => ?_⟩
      · unfold cutT needC
        have e1 : decide (ad.block < h.base) = false := decide_eq_false (by omega)
        simp [e1, h3, h4, h2, hx]
      · rw [List.length_drop] at hi
        obtain ⟨ad', v, g1, g2, g3⟩ := hs.el (x + i) (by omega)
        cases g1
        refine ⟨_, v, rfl, ?_, by rw [List.getElem_drop]; exact g3⟩
        rw [hadd i]
        exact g2

/-! ### Rank -/
def lessN (x : Int) (l : List Int) : Nat := l.countP fun y => decide (y < x)
def rankRun (n : Nat) : Nat → List Int → Nat → Nat
  | _, [], m => m
  | i, x :: l, m => rankRun n (i + 1) l (m * (n - i) + lessN x l)
theorem less_loop {F : Int → Int → Option (Value × Hp)} {E : Int → Option (Value × Hp)} {a : Option Addr} {n c : Nat} {l : List Int} {x : Int} (hs : Ints h a n c l) (hn : n ≤ 1000)
    (hF : ∀ m k, F m k = (bif decide (k < (n : Int)) then atC a n 1 k fun d_1 => ldI h .i64 d_1 fun y => (bif decide (y < x) then F (IntKind.i64.wrap (m + 1)) (IntKind.i64.wrap (k + 1)) else F m (IntKind.i64.wrap (k + 1))) else E m)) :
    ∀ (j k m : Nat), j + k = n → m ≤ k → F (m : Int) (k : Int) = E ((m + lessN x (l.drop k) : Nat) : Int) := by
  have hl := hs.len
  intro j
  induction j with
  | zero =>
    intro k m hk hm
    rw [hF, decide_eq_false (by omega), cond_false, List.drop_of_length_le (by omega)]
    rfl
  | succ j ih =>
    intro k m hk hm
    have hkl : k < l.length := by omega
    rw [hF, decide_eq_true (by omega), cond_true, hs.get hkl, List.drop_eq_getElem_cons hkl]
    unfold lessN
    rw [List.countP_cons]
    by_cases h1 : l[k] < x
    · rw [decide_eq_true h1, cond_true, wrap_nat (by omega), wrap_nat (by omega), ih (k + 1) (m + 1) (by omega) (by omega)]
      simp only [if_true]
      unfold lessN
      congr 2
      omega
    · rw [decide_eq_false h1, cond_false, wrap_nat (by omega), ih (k + 1) m (by omega) (by omega)]
      simp only [Bool.false_eq_true, if_false]
      rfl
theorem fact_succ (k : Nat) : fact (k + 1) = (k + 1) * fact k := rfl
theorem rank_bound : ∀ (n : Nat) (l : List Int) (i m : Nat), i + l.length = n → n ≤ 12 → (m + 1) * fact (n - i) ≤ fact n → rankRun n i l m < fact n
  | n, [], i, m, h1, _, h3 => by
    have : n - i = 0 := by simp at h1; omega
    rw [this] at h3
    unfold rankRun
    simp [fact] at h3
    omega
  | n, x :: l, i, m, h1, h2, h3 => by
    unfold rankRun
    rw [List.length_cons] at h1
    refine rank_bound n l (i + 1) _ (by omega) h2 ?_
    have h4 : n - i = (n - (i + 1)) + 1 := by omega
    have h5 : lessN x l ≤ l.length := List.countP_le_length
    rw [h4] at h3 ⊢
    rw [fact_succ] at h3
    have h6 : m * (n - (i + 1) + 1) + lessN x l + 1 ≤ (m + 1) * (n - (i + 1) + 1) := by
      rw [Nat.add_mul]
      omega
    refine Nat.le_trans (Nat.mul_le_mul_right _ h6) ?_
    rw [Nat.mul_assoc]
    exact h3
theorem rank_loop {a : Option Addr} {n c : Nat} {p : List Int} (hp : Ints h a n c p) (hn : n ≤ 12) :
    ∀ (j i m : Nat), j + i = n → (m + 1) * fact (n - i) ≤ fact n → L27_6 a n c (m : Int) a n c (n : Int) (i : Int) h = some (.tuple #[.int .i64 (rankRun n i (p.drop i) m : Nat), .int .i64 0], h) := by
  have hl := hp.len
  intro j
  induction j with
  | zero =>
    intro i m hj hb
    rw [L27_6_eq, decide_eq_false (by omega), cond_false, List.drop_of_length_le (by omega)]
    rfl
  | succ j ih =>
    intro i m hj hb
    have hil : i < p.length := by omega
    have hfn : fact n ≤ 479001600 := by rw [← fact12]; exact fact_mono hn
    have hm : m < fact n := by
      have h1 := fact_pos (n - i)
      have : m + 1 ≤ (m + 1) * fact (n - i) := Nat.le_mul_of_pos_right _ h1
      omega
    obtain ⟨a', c', e1, e2⟩ := hp.cutFrom (x := i + 1) (by omega)
    rw [L27_6_eq, decide_eq_true (by omega), cond_true, hp.get hil, wrap_nat (by omega), e1]
    have h1 := less_loop (x := p[i]) (F := fun m' k => L27_10 a n c (m : Int) (i : Int) p[i] m' a n c (n : Int) (i : Int) a' (n - (i + 1)) c' ((n - (i + 1) : Nat) : Int) k h)
      (E := fun m' => L27_6 a n c (IntKind.i64.wrap (IntKind.i64.wrap ((m : Int) * IntKind.i64.wrap ((n : Int) - (i : Int))) + m')) a n c (n : Int) (IntKind.i64.wrap ((i : Int) + 1)) h) e2 (by omega)
      (fun m' k => L27_10_eq a n c (m : Int) (i : Int) p[i] m' a n c (n : Int) (i : Int) a' (n - (i + 1)) c' ((n - (i + 1) : Nat) : Int) k h) (n - (i + 1)) 0 0 (by omega) (by omega)
    have h2 : L27_10 a n c (m : Int) (i : Int) p[i] 0 a n c (n : Int) (i : Int) a' (n - (i + 1)) c' ((n - (i + 1) : Nat) : Int) 0 h = _ := h1
    rw [h2, wrap_nat (by omega), Nat.zero_add]
    have hless : lessN p[i] (p.drop (i + 1)) ≤ 12 := by
      have : lessN p[i] (p.drop (i + 1)) ≤ (p.drop (i + 1)).length := List.countP_le_length
      rw [List.length_drop] at this
      omega
    have e3 : IntKind.i64.wrap ((n : Int) - (i : Int)) = ((n - i : Nat) : Int) := by rw [wrap_in (by omega) (by omega)]; omega
    have hmul : m * (n - i) ≤ 479001600 * 12 := Nat.mul_le_mul (by omega) (by omega)
    have e4 : IntKind.i64.wrap ((m : Int) * ((n - i : Nat) : Int)) = ((m * (n - i) : Nat) : Int) := by
      rw [← Int.natCast_mul, wrap_cast (by omega)]
    have e5 : IntKind.i64.wrap (((m * (n - i) : Nat) : Int) + ((lessN p[i] (List.drop 0 (p.drop (i + 1))) : Nat) : Int)) = ((m * (n - i) + lessN p[i] (p.drop (i + 1)) : Nat) : Int) := by
      rw [List.drop_zero, ← Int.natCast_add, wrap_cast (by omega)]
    rw [e3, e4, e5]
    have hb2 : (m * (n - i) + lessN p[i] (p.drop (i + 1)) + 1) * fact (n - (i + 1)) ≤ fact n := by
      have h4 : n - i = (n - (i + 1)) + 1 := by omega
      have h5 : lessN p[i] (p.drop (i + 1)) ≤ (p.drop (i + 1)).length := List.countP_le_length
      rw [List.length_drop] at h5
      rw [h4] at hb ⊢
      rw [fact_succ] at hb
      have h6 : m * (n - (i + 1) + 1) + lessN p[i] (p.drop (i + 1)) + 1 ≤ (m + 1) * (n - (i + 1) + 1) := by
        rw [Nat.add_mul]
        omega
      refine Nat.le_trans (Nat.mul_le_mul_right _ h6) ?_
      rw [Nat.mul_assoc]
      exact hb
    rw [ih (i + 1) _ (by omega) hb2]
    rw [List.drop_eq_getElem_cons hil]
    rfl
def rankL (p : List Int) : Nat := if isOrd p = true then rankRun p.length 0 p 0 else 0
theorem rankL_lt {p : List Int} (ho : isOrd p = true) : rankL p < fact p.length := by
  unfold rankL
  rw [if_pos ho]
  exact rank_bound p.length p 0 0 (by omega) (ord_le ho) (by simp)
theorem rank_spec {a : Option Addr} {n c : Nat} {p : List Int} (hp : Ints h a n c p) : run 27 [.slice a n c] h = some (.tuple #[.int .i64 (rankL p : Nat), .int .i64 (ordE p)], h) := by
  have hl := hp.len
  rw [eq27, check_spec hp, runC_some, asInt_mk]
  unfold rankL ordE
  cases ho : isOrd p with
  | false => rfl
  | true =>
    simp only [if_true, decide_true, Bool.not_true, cond_false]
    have := rank_loop hp (by have := ord_le ho; omega) n 0 0 (by omega) (by simp)
    rw [List.drop_zero, hl] at this
    rw [hl]
    exact this
end
end Go.Proofs.Ytcdeeppiljcddaa.AM
