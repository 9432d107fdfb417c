/- Specs of the plain answers: how many orders, ranks, whether an order is odd. Conditions: none. -/
import Derived.Test.YtcdeeppiljcddaaSp15
namespace Go.Proofs.Ytcdeeppiljcddaa.AM
open Go
section
variable {h h0 : Hp}
theorem many_spec : ∀ {n : Nat}, n ≤ 12 → run 42 [.int .i64 (n : Int)] h = some (.int .i64 (fact n : Nat), h)
  | 0, _ => by rw [eq42]; rfl
  | 1, _ => by rw [eq42]; rfl
  | n + 2, hn => by
    have e1 : ((n + 2 : Nat) : Int) - 1 = ((n + 1 : Nat) : Int) := by omega
    rw [eq42, decide_eq_false (by omega), cond_false, e1, wrap_cast (by omega), many_spec (n := n + 1) (by omega), runC_some, asInt_mk]
    have := fact_wrap (k := n + 1) (by omega)
    rw [this]

/-! ### Rank, the plain answer -/
theorem rrank_loop {a : Option Addr} {n c : Nat} {p : List Int} (hp : Ints h a n c p) (hn : n ≤ 12) :
    ∀ (j i m : Nat), j + i = n → m + rk (p.drop i) = rk p → L29_5 a n c (m : Int) a n c (n : Int) (i : Int) h = some (.tuple #[.int .i64 (rk p : Nat), .int .i64 0], h) := by
  have hl := hp.len
  have hrk := rk_lt p
  have hfn : fact p.length ≤ 479001600 := by rw [← fact12]; exact fact_mono (by omega)
  intro j
  induction j with
  | zero =>
    intro i m hj hm
    rw [List.drop_of_length_le (by omega)] at hm
    have : m = rk p := by simpa [rk] using hm
    rw [L29_5_eq, decide_eq_false (by omega), cond_false, this]
  | succ j ih =>
    intro i m hj hm
    have hil : i < p.length := by omega
    obtain ⟨a', c', e1, e2⟩ := hp.cutFrom (x := i) (by omega)
    rw [L29_5_eq, decide_eq_true (by omega), cond_true, hp.get hil, e1]
    have h1 := less_loop (x := p[i]) (F := fun m' k => L29_9 a n c (m : Int) (i : Int) p[i] m' a n c (n : Int) (i : Int) a' (n - i) c' ((n - i : Nat) : Int) k h)
      (E := fun m' => runC (run 42 [(.int .i64 (IntKind.i64.wrap ((IntKind.i64.wrap ((n : Int) - 1)) - (i : Int))))] h) fun v_3 h_4 => asIntC .i64 v_3 fun x_5 =>
        L29_5 a n c (IntKind.i64.wrap ((m : Int) + (IntKind.i64.wrap (m' * x_5)))) a n c (n : Int) (IntKind.i64.wrap ((i : Int) + 1)) h_4) e2 (by omega)
      (fun m' k => L29_9_eq a n c (m : Int) (i : Int) p[i] m' a n c (n : Int) (i : Int) a' (n - i) c' ((n - i : Nat) : Int) k h) (n - i) 0 0 (by omega) (by omega)
    have h2 : L29_9 a n c (m : Int) (i : Int) p[i] 0 a n c (n : Int) (i : Int) a' (n - i) c' ((n - i : Nat) : Int) 0 h = _ := h1
    have e3 : IntKind.i64.wrap (IntKind.i64.wrap ((n : Int) - 1) - (i : Int)) = ((n - 1 - i : Nat) : Int) := by
      rw [wrap_in (x := (n : Int) - 1) (by omega) (by omega), wrap_in (by omega) (by omega)]; omega
    rw [h2, e3, many_spec (by omega), runC_some, asInt_mk, Nat.zero_add, List.drop_zero]
    have hdi : p.drop i = p[i] :: p.drop (i + 1) := List.drop_eq_getElem_cons hil
    have hless : lessN p[i] (p.drop i) = lessN p[i] (p.drop (i + 1)) := by
      rw [hdi, lessN_cons, if_neg (by omega)]; omega
    rw [hdi, rk, List.length_drop] at hm
    have hlen : p.length - (i + 1) = n - 1 - i := by omega
    rw [hlen] at hm
    rw [hless]
    have e4 : IntKind.i64.wrap (((lessN p[i] (p.drop (i + 1)) : Nat) : Int) * ((fact (n - 1 - i) : Nat) : Int)) = ((lessN p[i] (p.drop (i + 1)) * fact (n - 1 - i) : Nat) : Int) := by
      rw [← Int.natCast_mul, wrap_cast (by omega)]
    rw [e4, ← Int.natCast_add, wrap_cast (by omega), wrap_nat (by omega)]
    exact ih (i + 1) _ (by omega) (by omega)
theorem rrank_spec {a : Option Addr} {n c : Nat} {p : List Int} (hp : Ints h a n c p) : run 29 [.slice a n c] h = some (.tuple #[.int .i64 (rankL p : Nat), .int .i64 (ordE p)], h) := by
  have hl := hp.len
  rw [eq29, is_spec hp, runC_some, asBool_mk]
  cases ho : isOrd p with
  | false =>
    unfold rankL ordE
    rw [ho]
    rfl
  | true =>
    rw [rankL_eq ho, ordE_ok ho, Bool.not_true, cond_false]
    have := rrank_loop hp (by have := ord_le ho; omega) n 0 0 (by omega) (by simp)
    exact this

/-! ### Odd, the plain answer -/
theorem Sl.cutTo {α : Type} {E : Hp → Value → α → Prop} {a : Option Addr} {n c : Nat} {l : List α} (hs : Sl E h a n c l) {x : Nat} (hx : x ≤ n) :
    ∃ a' c', (∀ (R : Type) (K : Option Addr → Nat → Nat → Option R), cutT h a n c 1 none (some (x : Int)) K = K a' x c') ∧ Sl E h a' x c' (l.take x) := by
  have hl := hs.len
  have hel : ∀ i (hi : i < (l.take x).length), ∃ ad v, a = some ad ∧ h.cell (ad.add i) = some v ∧ E h v (l.take x)[i] := fun i hi => by
    rw [List.length_take] at hi
    obtain ⟨ad, v, g1, g2, g3⟩ := hs.el i (by omega)
    exact ⟨ad, v, g1, g2, by rw [List.getElem_take]; exact g3⟩
  have hlen : x = (l.take x).length := by rw [List.length_take]; omega
  cases a with
  | none =>
    obtain ⟨h1, h2⟩ := hs.ok
    subst h1 h2
    have : x = 0 := by omega
    subst this
    exact ⟨none, 0, fun R K => rfl, hlen, ⟨rfl, rfl⟩, hel⟩
  | some ad =>
    rcases hs.ok with ⟨h1, h2⟩ | ⟨h1, h2, b, h3, h4⟩
    · refine ⟨some ad, c, fun R K => ?_, hlen, .inl ⟨h1, by omega⟩, hel⟩
      have : x ≤ c := by omega
      unfold cutT needC
      simp [h1, h2, this, Addr.add]
    · refine ⟨some ad, 0, fun R K => ?_, hlen, .inr ⟨h1, h2, b, h3, h4⟩, hel⟩
      unfold cutT needC
      have e1 : decide (ad.block < h.base) = false := decide_eq_false (by omega)
      simp [e1, h3, h4, h2, hx, Addr.add]
theorem inv_snoc (l : List Int) (x : Int) : invN (l ++ [x]) = invN l + gtN x l := by
  rw [inv_append, cross_cons]
  have h1 : cross l [] = 0 := by
    induction l with
    | nil => rfl
    | cons y l ih => rw [cross, ih]; rfl
  rw [h1]
  simp [invN, lessN]
theorem inv_le : ∀ (l : List Int), invN l ≤ l.length * l.length
  | [] => by simp [invN]
  | x :: l => by
    have h1 := inv_le l
    have h2 := lessN_le x l
    rw [invN, List.length_cons]
    have : (l.length + 1) * (l.length + 1) = l.length * l.length + l.length + l.length + 1 := by rw [Nat.add_mul, Nat.mul_add]; omega
    omega
theorem rodd_loop {a : Option Addr} {n c : Nat} {p : List Int} (hp : Ints h a n c p) (hn : n ≤ 12) :
    ∀ (j i : Nat), j + i = n → L33_5 a n c (invN (p.take i) : Nat) a n c (n : Int) (i : Int) h = some (.tuple #[.bool (decide (invN p % 2 = 1)), .int .i64 0], h) := by
  have hl := hp.len
  intro j
  induction j with
  | zero =>
    intro i hj
    rw [L33_5_eq, decide_eq_false (by omega), cond_false, List.take_of_length_le (by omega)]
    have h1 : Int.tmod (invN p : Nat) 2 = ((invN p % 2 : Nat) : Int) := rfl
    rw [h1]
    have h2 : decide (((invN p % 2 : Nat) : Int) = 1) = decide (invN p % 2 = 1) := decide_eq_decide.2 (by omega)
    rw [h2]
  | succ j ih =>
    intro i hj
    have hil : i < p.length := by omega
    obtain ⟨a', c', e1, e2⟩ := hp.cutTo (x := i) (by omega)
    have hle := inv_le (p.take i)
    have hli : (p.take i).length = i := by rw [List.length_take]; omega
    rw [hli] at hle
    have hsq : i * i ≤ 12 * 12 := Nat.mul_le_mul (by omega) (by omega)
    rw [L33_5_eq, decide_eq_true (by omega), cond_true, hp.get hil, e1]
    have inner : ∀ (j k m : Nat), j + k = i → m ≤ 1000 + k → L33_8 a n c (m : Int) p[i] a n c (n : Int) (i : Int) a' i c' (i : Int) (k : Int) h = L33_5 a n c ((m + gtN p[i] ((p.take i).drop k) : Nat) : Int) a n c (n : Int) (IntKind.i64.wrap ((i : Int) + 1)) h := by
      intro j
      induction j with
      | zero =>
        intro k m hk hm
        rw [L33_8_eq, decide_eq_false (by omega), cond_false, List.drop_of_length_le (by omega)]
        rfl
      | succ j ih2 =>
        intro k m hk hm
        have hkl : k < (p.take i).length := by omega
        rw [L33_8_eq, decide_eq_true (by omega), cond_true, Ints.get e2 hkl, List.drop_eq_getElem_cons hkl]
        unfold gtN
        rw [List.countP_cons]
        by_cases h1 : p[i] < (p.take i)[k]
        · rw [decide_eq_true h1, cond_true, wrap_nat (by omega), wrap_nat (by omega), ih2 (k + 1) (m + 1) (by omega) (by omega)]
          simp only [if_true]
          unfold gtN
          congr 2
          omega
        · rw [decide_eq_false h1, cond_false, wrap_nat (by omega), ih2 (k + 1) m (by omega) (by omega)]
          simp only [Bool.false_eq_true, if_false]
          rfl
    have h2 := inner i 0 (invN (p.take i)) (by omega) (by omega)
    have h2' : L33_8 a n c (invN (p.take i) : Nat) p[i] a n c (n : Int) (i : Int) a' i c' (i : Int) 0 h = _ := h2
    rw [h2', List.drop_zero, ← inv_snoc, wrap_nat (by omega)]
    have e4 : p.take (i + 1) = p.take i ++ [p[i]] := by rw [List.take_succ_eq_append_getElem hil]
    rw [← e4]
    exact ih (i + 1) (by omega)
theorem rodd_spec {a : Option Addr} {n c : Nat} {p : List Int} (hp : Ints h a n c p) : run 33 [.slice a n c] h = some (.tuple #[.bool (oddL p), .int .i64 (ordE p)], h) := by
  have hl := hp.len
  rw [eq33, is_spec hp, runC_some, asBool_mk]
  cases ho : isOrd p with
  | false =>
    unfold oddL cyclesL ordE
    rw [ho]
    rfl
  | true =>
    rw [(odd_inv ho).1, ordE_ok ho, Bool.not_true, cond_false]
    have := rodd_loop hp (by have := ord_le ho; omega) n 0 (by omega)
    exact this
end
end Go.Proofs.Ytcdeeppiljcddaa.AM
