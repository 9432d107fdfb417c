/- Merged: Zc1 Zc2. Conditions: none. -/
import Derived.Test.YtemdhiejbncafaaZb
import Derived.Laws.Bits64
import Derived.Laws.BitsLemmas
set_option linter.all false
section
namespace Go.Proofs.Ytemdhiejbncafaa.VM
set_option linter.unusedSectionVars false
open Go AM
/-- A byte, as a tree. -/
def byT (b : UInt8) : T := .int .u8 (b.toNat : Int)
theorem byT_byte (l : List UInt8) : (l.map byT).all isByte = true := by
  induction l with
  | nil => rfl
  | cons b l ih => rw [List.map_cons, List.all_cons, ih]; rfl
theorem byT_back (l : List UInt8) : (l.map byT).map byteT = l := by
  induction l with
  | nil => rfl
  | cons b l ih =>
    rw [List.map_cons, List.map_cons, ih]
    have : byteT (byT b) = b := by
      show UInt8.ofNat ((b.toNat : Int)).toNat = b
      rw [Int.toNat_natCast]
      simp
    rw [this]
theorem asI_byT {R : Type} (x : UInt8) (K : Int → Option R) : asI .u8 (byT x) K = K (x.toNat : Int) := asI_int .u8 _ K
theorem fold_byT (x : UInt8) : (T.int .u8 (x.toNat : Int)) = byT x := rfl
theorem at_mid {A : Type} (a r : List A) (x : A) : (a ++ x :: r)[a.length]? = some x := by simp
theorem set_mid {A : Type} (a r : List A) (x y : A) : (a ++ x :: r).set a.length y = a ++ y :: r := by simp
/-- slices.Reverse of bytes: the loop. -/
theorem L35_spec : ∀ (k : Nat) (m : List UInt8) (a b : List T), m.length = k → (a ++ m.map byT ++ b).length < 100000 →
    L35_1 (a.length : Int) ((a.length : Int) + (m.length : Int) - 1) true (a ++ m.map byT ++ b) = some (.tup [], ⟨[(0, .arr true 1 true (a ++ m.reverse.map byT ++ b))], [500]⟩) := by
  intro k
  induction k using Nat.strongRecOn with
  | ind k ih =>
    intro m a b hk hl
    rw [L35_1_eq]
    cases m with
    | nil =>
      have h1 : decide ((a.length : Int) < (a.length : Int) + (([] : List UInt8).length : Int) - 1) = false := decide_eq_false (by simp; omega)
      rw [h1, cf]
      rfl
    | cons x t =>
      rcases List.eq_nil_or_concat t with rfl | ⟨m', y, rfl⟩
      · have h1 : decide ((a.length : Int) < (a.length : Int) + (([x] : List UInt8).length : Int) - 1) = false := decide_eq_false (by simp)
        rw [h1, cf]
        rfl
      · rw [List.concat_eq_append] at hk hl ⊢
        have e1 : a ++ (x :: (m' ++ [y])).map byT ++ b = a ++ byT x :: (m'.map byT ++ byT y :: b) := by simp
        have hlen : (x :: (m' ++ [y])).length = m'.length + 2 := by simp
        have hll : (a ++ byT x :: (m'.map byT ++ byT y :: b)).length = a.length + m'.length + 2 + b.length := by simp; omega
        rw [e1] at hl
        rw [hll] at hl
        have h1 : decide ((a.length : Int) < (a.length : Int) + ((x :: (m' ++ [y])).length : Int) - 1) = true := decide_eq_true (by rw [hlen]; omega)
        rw [e1, h1, ct]
        have hj : ((a.length : Int) + ((x :: (m' ++ [y])).length : Int) - 1) = ((a.length + m'.length + 1 : Nat) : Int) := by rw [hlen]; omega
        rw [hj]
        have h2 : (decide (0 ≤ ((a.length + m'.length + 1 : Nat) : Int)) && decide (((a.length + m'.length + 1 : Nat) : Int) < ((a ++ byT x :: (m'.map byT ++ byT y :: b)).length : Int))) = true := by
          rw [decide_eq_true (by omega), decide_eq_true (by rw [hll]; omega)]; rfl
        have h3 : (decide (0 ≤ (a.length : Int)) && decide ((a.length : Int) < ((a ++ byT x :: (m'.map byT ++ byT y :: b)).length : Int))) = true := by
          rw [decide_eq_true (by omega), decide_eq_true (by rw [hll]; omega)]; rfl
        have g1 : (a ++ byT x :: (m'.map byT ++ byT y :: b))[(((a.length + m'.length + 1 : Nat) : Int)).toNat]? = some (byT y) := by
          have := at_mid (a ++ byT x :: m'.map byT) b (byT y)
          rw [Int.toNat_natCast]
          have e : (a ++ byT x :: m'.map byT).length = a.length + m'.length + 1 := by simp; omega
          rw [e] at this
          rw [← this]
          congr 1
          simp
        have g2 : (a ++ byT x :: (m'.map byT ++ byT y :: b))[((a.length : Int)).toNat]? = some (byT x) := by
          rw [Int.toNat_natCast]; exact at_mid _ _ _
        rw [needC_true h2, getT_at g1, asI_byT, needC_true h3, getT_at g2, asI_byT, needC_true h3, fold_byT, fold_byT]
        have s1 : (a ++ byT x :: (m'.map byT ++ byT y :: b)).set ((a.length : Int)).toNat (byT y) = a ++ byT y :: (m'.map byT ++ byT y :: b) := by
          rw [Int.toNat_natCast]; exact set_mid _ _ _ _
        rw [bTA, needC_t, setT_at _ (by rw [hll, Int.toNat_natCast]; omega), s1]
        have hll2 : (a ++ byT y :: (m'.map byT ++ byT y :: b)).length = a.length + m'.length + 2 + b.length := by simp; omega
        have h4 : (decide (0 ≤ ((a.length + m'.length + 1 : Nat) : Int)) && decide (((a.length + m'.length + 1 : Nat) : Int) < ((a ++ byT y :: (m'.map byT ++ byT y :: b)).length : Int))) = true := by
          rw [decide_eq_true (by omega), decide_eq_true (by rw [hll2]; omega)]; rfl
        have s2 : (a ++ byT y :: (m'.map byT ++ byT y :: b)).set (((a.length + m'.length + 1 : Nat) : Int)).toNat (byT x) = (a ++ [byT y]) ++ m'.map byT ++ byT x :: b := by
          have := set_mid (a ++ byT y :: m'.map byT) b (byT y) (byT x)
          rw [Int.toNat_natCast]
          have e : (a ++ byT y :: m'.map byT).length = a.length + m'.length + 1 := by simp; omega
          rw [e] at this
          have e2 : a ++ byT y :: (m'.map byT ++ byT y :: b) = a ++ byT y :: m'.map byT ++ byT y :: b := by simp
          rw [e2, this]
          simp
        rw [needC_true h4, needC_t, setT_at _ (by rw [hll2, Int.toNat_natCast]; omega), s2]
        have w1 : IntKind.i64.wrap ((a.length : Int) + 1) = ((a ++ [byT y]).length : Int) := by
          rw [wrap64 (by omega) (by omega)]; simp
        have w2 : IntKind.i64.wrap (((a.length + m'.length + 1 : Nat) : Int) - 1) = ((a ++ [byT y]).length : Int) + (m'.length : Int) - 1 := by
          rw [wrap64 (by omega) (by omega)]; simp; omega
        rw [w1, w2]
        rw [ih m'.length (by rw [← hk, hlen]; omega) m' (a ++ [byT y]) (byT x :: b) rfl (by simp; omega)]
        congr 3
        simp
theorem rev35 (m : List UInt8) (h : m.length < 100000) : vr 35 0 [.buf 0] ⟨[(0, .arr true 1 true (m.map byT))], []⟩ = some (.tup [], ⟨[(0, .arr true 1 true (m.reverse.map byT))], [500]⟩) := by
  rw [eq35]
  have hl : (m.map byT).length = m.length := by simp
  have := L35_spec m.length m [] [] rfl (by simpa using h)
  simp only [List.nil_append, List.append_nil, List.length_nil] at this
  rw [hl, wrap64 (by omega) (by omega)]
  have e : ((0 : Nat) : Int) + (m.length : Int) - 1 = (m.length : Int) - 1 := by omega
  rw [e] at this
  exact this
/-- A number's digits, the last one first. -/
def revD (n : Nat) : List UInt8 := if n < 10 then [UInt8.ofNat (48 + n)] else UInt8.ofNat (48 + n % 10) :: revD (n / 10)
termination_by n
decreasing_by omega
theorem revD_lt {n : Nat} (h : n < 10) : revD n = [UInt8.ofNat (48 + n)] := by rw [revD, if_pos h]
theorem revD_ge {n : Nat} (h : ¬ n < 10) : revD n = UInt8.ofNat (48 + n % 10) :: revD (n / 10) := by rw [revD, if_neg h]
def digs (n : Nat) : List UInt8 := (revD n).reverse
theorem byT_of {n : Nat} (h : n < 256) : byT (UInt8.ofNat n) = .int .u8 (n : Int) := by
  unfold byT
  rw [UInt8.toNat_ofNat', Nat.mod_eq_of_lt h]
theorem tmod10 (n : Nat) : Int.tmod (n : Int) 10 = ((n % 10 : Nat) : Int) := by
  rw [Int.tmod_eq_emod_of_nonneg (by omega)]; rfl
theorem tdiv10 (n : Nat) : Int.tdiv (n : Int) 10 = ((n / 10 : Nat) : Int) := by
  rw [Int.tdiv_eq_ediv_of_nonneg (by omega)]; rfl
theorem L17_spec (n : Int) : ∀ (u : Nat), u < 18446744073709551616 → ∀ (z : Bool) (m : List UInt8), m.length + (revD u).length ≤ 1000 →
    L17_5 n (u : Int) z (m.map byT) = some (.t (.str ⟨⟨(bif decide (n < 0) then [45] else []) ++ digs u ++ m.reverse⟩⟩), e0) := by
  intro u
  induction u using Nat.strongRecOn with
  | ind u ih =>
    intro hu z m hm
    rw [L17_5_eq]
    have hml : (m.map byT).length = m.length := by simp
    have n1 : (decide (((m.map byT).length + 1) * (1 + 1) ≤ 70368744177664) && decide (1 ≤ 1048576)) = true := by rw [decide_eq_true (by omega)]; rfl
    have w2 : IntKind.u8.wrap (IntKind.u64.wrap ((48 : Int) + ((u % 10 : Nat) : Int))) = ((48 + u % 10 : Nat) : Int) := by
      rw [IntKind.wrap_u64, IntKind.wrap_u8]; omega
    have w3 : IntKind.u64.wrap ((u / 10 : Nat) : Int) = ((u / 10 : Nat) : Int) := by rw [IntKind.wrap_u64]; omega
    have eb : (.int .u8 ((48 + u % 10 : Nat) : Int) : T) = byT (UInt8.ofNat (48 + u % 10)) := (byT_of (by omega)).symm
    have ap : m.map byT ++ [byT (UInt8.ofNat (48 + u % 10))] = (m ++ [UInt8.ofNat (48 + u % 10)]).map byT := by simp
    rw [needC_true n1, tdiv10, tmod10, w2, w3, eb, ap]
    simp only [bOT]
    by_cases h10 : u < 10
    · have hd : digs u = [UInt8.ofNat (48 + u % 10)] := by unfold digs; rw [revD_lt h10, Nat.mod_eq_of_lt h10]; rfl
      have d1 : decide (((u / 10 : Nat) : Int) = 0) = true := decide_eq_true (by omega)
      have tail : ∀ l : List UInt8, l.length < 100000 → (callK (vr 35 0 [.buf 0] ⟨[(0, .arr true 1 true (l.map byT))], []⟩) fun v_8 b_9 =>
          asTup v_8 fun l_10 => endV l_10 <| consB 0 b_9 fun k_11 b_12 => asArr 1 k_11 fun nn_13 l_14 => endB b_12 <|
          needC ((1 == 1) && l_14.all isByte) fun _ => some ((V.t (.str ⟨(l_14.map byteT).toArray⟩)), (⟨[], []⟩ : St))) = some (.t (.str ⟨⟨l.reverse⟩⟩), e0) := by
        intro l hl
        rw [rev35 l hl, callK_some, asTup_tup, endV_nil, consB_cons, asArr_arr, endB_nil, byT_byte, byT_back]
        rfl
      rw [d1, ct]
      cases hn : decide (n < 0) with
      | true =>
        have n2 : (decide (((((m ++ [UInt8.ofNat (48 + u % 10)]).map byT)).length + 1) * (1 + 1) ≤ 70368744177664) && decide (1 ≤ 1048576)) = true := by
          rw [decide_eq_true (by simp; omega)]; rfl
        have ap2 : (m ++ [UInt8.ofNat (48 + u % 10)]).map byT ++ [(.int .u8 45 : T)] = (m ++ [UInt8.ofNat (48 + u % 10)] ++ [45]).map byT := by
          rw [List.map_append (l₂ := [45])]; rfl
        rw [ct, needC_true n2, ap2, ct]
        have := tail (m ++ [UInt8.ofNat (48 + u % 10)] ++ [45]) (by simp; omega)
        rw [hd]
        refine Eq.trans ?_ (this.trans ?_)
        · rfl
        · simp
      | false =>
        rw [cf, cf]
        have := tail (m ++ [UInt8.ofNat (48 + u % 10)]) (by simp; omega)
        rw [hd]
        refine Eq.trans ?_ (this.trans ?_)
        · rfl
        · simp
    · have hd : digs u = digs (u / 10) ++ [UInt8.ofNat (48 + u % 10)] := by unfold digs; rw [revD_ge h10]; simp
      have hr : (revD u).length = (revD (u / 10)).length + 1 := by rw [revD_ge h10]; rfl
      have d1 : decide (((u / 10 : Nat) : Int) = 0) = false := decide_eq_false (by omega)
      rw [d1, cf, ih (u / 10) (by omega) (by omega) _ _ (by simp; omega), hd]
      congr 5
      simp
theorem revD_len : ∀ (k n : Nat), n < 10 ^ (k + 1) → (revD n).length ≤ k + 1
  | 0, n, h => by rw [revD_lt (by omega)]; simp
  | k + 1, n, h => by
    by_cases h10 : n < 10
    · rw [revD_lt h10]; simp
    · rw [revD_ge h10, List.length_cons]
      have h2 : n / 10 < 10 ^ (k + 1) := by rw [Nat.div_lt_iff_lt_mul (by omega)]; rw [Nat.pow_succ] at h; exact h
      have := revD_len k (n / 10) h2
      omega
theorem revD_big : ∀ (k n : Nat), 10 ^ k ≤ n → k + 1 ≤ (revD n).length
  | 0, n, h => by
    by_cases h10 : n < 10
    · rw [revD_lt h10]; simp
    · rw [revD_ge h10, List.length_cons]; omega
  | k + 1, n, h => by
    have h0 : 1 ≤ 10 ^ k := Nat.one_le_pow _ _ (by omega)
    rw [Nat.pow_succ] at h
    rw [revD_ge (by omega), List.length_cons]
    have := revD_big k (n / 10) ((Nat.le_div_iff_mul_le (by omega)).2 h)
    omega
/-- lexer.Digits. -/
def digL (n : Int) : List UInt8 := (bif decide (n < 0) then [45] else []) ++ digs n.natAbs
theorem digits17 (n : Int) (h1 : -9223372036854775808 ≤ n) (h2 : n < 9223372036854775808) : vr 17 0 [.t (.int .i64 n)] e0 = some (.t (.str ⟨⟨digL n⟩⟩), e0) := by
  rw [eq17]
  have hlen : (revD n.natAbs).length ≤ 30 := revD_len 29 _ (by omega)
  have L := L17_spec n n.natAbs (by omega) false [] (by simp; omega)
  have e : (bif decide (n < 0) then [45] else []) ++ digs n.natAbs ++ ([] : List UInt8).reverse = digL n := by unfold digL; simp
  rw [e] at L
  by_cases hn : n < 0
  · have w : IntKind.u64.wrap (0 - (IntKind.u64.wrap n)) = (n.natAbs : Int) := by rw [IntKind.wrap_u64, IntKind.wrap_u64]; omega
    rw [decide_eq_true hn, ct, w]
    exact L
  · have w : IntKind.u64.wrap n = (n.natAbs : Int) := by rw [IntKind.wrap_u64]; omega
    rw [decide_eq_false hn, cf, w]
    exact L
end Go.Proofs.Ytemdhiejbncafaa.VM
end

section
namespace Go.Proofs.Ytemdhiejbncafaa.VM
set_option linter.unusedSectionVars false
open Go AM
theorem tmodAbs (n : Int) : (if Int.tmod n 10 < 0 then 0 - Int.tmod n 10 else Int.tmod n 10) = ((n.natAbs % 10 : Nat) : Int) := by
  rcases Int.natAbs_eq n with h | h
  · have := tmod10 n.natAbs
    rw [← h] at this
    rw [this, if_neg (by omega)]
  · have h2 : Int.tmod n 10 = -((n.natAbs % 10 : Nat) : Int) := by
      rw [← tmod10, ← Int.neg_tmod, ← h]
    rw [h2]
    split <;> omega
theorem tdivAbs (n : Int) : (Int.tdiv n 10).natAbs = n.natAbs / 10 := by
  rcases Int.natAbs_eq n with h | h
  · have := tdiv10 n.natAbs
    rw [← h] at this
    rw [this]; omega
  · have h2 : Int.tdiv n 10 = -((n.natAbs / 10 : Nat) : Int) := by
      rw [← tdiv10, ← Int.neg_tdiv, ← h]
    rw [h2]; omega
theorem last36 : ∀ (k : Nat) (n : Int), n.natAbs = k → -9223372036854775808 ≤ n → n < 9223372036854775808 → vr 36 0 [.t (.int .i64 n)] e0 = some (.t (.str ⟨⟨digs n.natAbs⟩⟩), e0) := by
  intro k
  induction k using Nat.strongRecOn with
  | ind k ih =>
    intro n hk h1 h2
    have hm := tmodAbs n
    have J : J36_4 n ((n.natAbs % 10 : Nat) : Int) = some (.t (.str ⟨⟨digs n.natAbs⟩⟩), e0) := by
      rw [J36_4_eq]
      have hd := tdivAbs n
      have w1 : IntKind.i32.wrap (IntKind.i64.wrap ((48 : Int) + ((n.natAbs % 10 : Nat) : Int))) = ((48 + n.natAbs % 10 : Nat) : Int) := by
        rw [wrap64 (by omega) (by omega), IntKind.wrap_i32]; omega
      have w2 : IntKind.i64.wrap (Int.tdiv n 10) = Int.tdiv n 10 := wrap64 (by omega) (by omega)
      have n1 : (decide (0 ≤ ((48 + n.natAbs % 10 : Nat) : Int)) && decide (((48 + n.natAbs % 10 : Nat) : Int) < 128)) = true := by rw [decide_eq_true (by omega), decide_eq_true (by omega)]; rfl
      have eb : (⟨#[(((48 + n.natAbs % 10 : Nat) : Int)).toNat.toUInt8]⟩ : ByteArray) = ⟨⟨[UInt8.ofNat (48 + n.natAbs % 10)]⟩⟩ := by rw [Int.toNat_natCast]
      rw [w1, w2, needC_true n1, eb]
      by_cases h10 : n.natAbs < 10
      · have d : decide (Int.tdiv n 10 = 0) = true := decide_eq_true (by omega)
        have e : digs n.natAbs = [UInt8.ofNat (48 + n.natAbs % 10)] := by unfold digs; rw [revD_lt h10, Nat.mod_eq_of_lt h10]; rfl
        rw [d, ct, e]
      · have d : decide (Int.tdiv n 10 = 0) = false := decide_eq_false (by omega)
        have e : digs n.natAbs = digs (n.natAbs / 10) ++ [UInt8.ofNat (48 + n.natAbs % 10)] := by unfold digs; rw [revD_ge h10]; simp
        have hlen : (revD (n.natAbs / 10)).length ≤ 30 := revD_len 29 _ (by omega)
        rw [d, cf, ih (Int.tdiv n 10).natAbs (by omega) (Int.tdiv n 10) rfl (by omega) (by omega), callK_some, asT_t, asS_str, endB_nil, hd]
        rw [cat_some (by
          have : (⟨⟨digs (n.natAbs / 10)⟩⟩ : ByteArray).size = (revD (n.natAbs / 10)).length := by show (digs _).length = _; unfold digs; simp
          rw [this]
          show _ + 1 ≤ _
          omega)]
        have : (⟨⟨digs (n.natAbs / 10)⟩⟩ : ByteArray) ++ ⟨⟨[UInt8.ofNat (48 + n.natAbs % 10)]⟩⟩ = ⟨⟨digs n.natAbs⟩⟩ := by
          have h3 : ∀ a b : ByteArray, a.data.toList = b.data.toList → a = b := fun a b h => by
            obtain ⟨⟨x⟩⟩ := a; obtain ⟨⟨y⟩⟩ := b; exact congrArg (fun l => (⟨⟨l⟩⟩ : ByteArray)) h
          apply h3
          rw [app_list]
          exact e.symm
        rw [this]
    rw [eq36]
    by_cases hn : Int.tmod n 10 < 0
    · rw [if_pos hn] at hm
      rw [decide_eq_true hn, ct, hm, wrap64 (by omega) (by omega)]
      exact J
    · rw [if_neg hn] at hm
      rw [decide_eq_false hn, cf, hm]
      exact J
theorem bytes_ext {a b : ByteArray} (h : a.data.toList = b.data.toList) : a = b := by
  obtain ⟨⟨x⟩⟩ := a; obtain ⟨⟨y⟩⟩ := b; exact congrArg (fun l => (⟨⟨l⟩⟩ : ByteArray)) h
theorem digits20 (n : Int) (h1 : -9223372036854775808 ≤ n) (h2 : n < 9223372036854775808) : vr 20 0 [.t (.int .i64 n)] e0 = some (.t (.str ⟨⟨digL n⟩⟩), e0) := by
  rw [eq20, last36 _ n rfl h1 h2, callK_some, asT_t, asS_str, endB_nil]
  unfold digL
  have hlen : (revD n.natAbs).length ≤ 30 := revD_len 29 _ (by omega)
  cases decide (n < 0) with
  | true =>
    rw [ct, ct, cat_some (by
      have : (⟨⟨digs n.natAbs⟩⟩ : ByteArray).size = (revD n.natAbs).length := by show (digs _).length = _; unfold digs; simp
      rw [this]; show 1 + _ ≤ _; omega)]
    have : (⟨#[45]⟩ : ByteArray) ++ ⟨⟨digs n.natAbs⟩⟩ = ⟨⟨[45] ++ digs n.natAbs⟩⟩ := bytes_ext (by rw [app_list])
    rw [this]
  | false => rw [cf, cf]; rfl
theorem numL_app : ∀ (l m : List UInt8) (n : Int), numL (l ++ m) n = (numL l n).bind (numL m)
  | [], m, n => rfl
  | b :: l, m, n => by
    rw [List.cons_append]
    unfold numL
    cases isD b with
    | true => rw [ct, ct]; exact numL_app l m _
    | false => rfl
theorem digit_byte {d : Nat} (h : d < 10) : isD (UInt8.ofNat (48 + d)) = true ∧ (UInt8.ofNat (48 + d)).toNat = 48 + d := by
  have h2 : (UInt8.ofNat (48 + d)).toNat = 48 + d := by rw [UInt8.toNat_ofNat', Nat.mod_eq_of_lt (by omega)]
  refine ⟨?_, h2⟩
  unfold isD
  rw [h2]
  simp; omega
theorem dig_ok {n d : Nat} (hn : n < 100000000000000000) (h : d < 10) : dig (n : Int) (UInt8.ofNat (48 + d)) = ((10 * n + d : Nat) : Int) := by
  unfold dig
  rw [(digit_byte h).2]
  have w1 : IntKind.u8.wrap (((48 + d : Nat) : Int) - 48) = (d : Int) := by rw [IntKind.wrap_u8]; omega
  rw [w1, wrap64 (n := (d : Int)) (by omega) (by omega), wrap64 (n := 10 * (n : Int)) (by omega) (by omega), wrap64 (by omega) (by omega)]
  omega
theorem digs_lt {n : Nat} (h : n < 10) : digs n = [UInt8.ofNat (48 + n)] := by unfold digs; rw [revD_lt h]; rfl
theorem digs_ge {n : Nat} (h : ¬ n < 10) : digs n = digs (n / 10) ++ [UInt8.ofNat (48 + n % 10)] := by unfold digs; rw [revD_ge h]; simp
theorem numL_digs : ∀ u : Nat, u < 1000000000000000000 → numL (digs u) 0 = some (u : Int) := by
  intro u
  induction u using Nat.strongRecOn with
  | ind u ih =>
    intro h
    by_cases h10 : u < 10
    · rw [digs_lt h10]
      unfold numL
      rw [(digit_byte h10).1, ct]
      have := dig_ok (n := 0) (d := u) (by omega) h10
      unfold numL
      have e : ((0 : Nat) : Int) = 0 := rfl
      rw [e] at this
      rw [this]
      congr 1
      omega
    · rw [digs_ge h10, numL_app, ih (u / 10) (by omega) (by omega)]
      have hm : u % 10 < 10 := by omega
      show numL [UInt8.ofNat (48 + u % 10)] ((u / 10 : Nat) : Int) = _
      unfold numL
      rw [(digit_byte hm).1, ct, dig_ok (by omega) hm]
      unfold numL
      congr 2
      omega
theorem digs_all : ∀ u : Nat, (digs u).all isD = true := by
  intro u
  induction u using Nat.strongRecOn with
  | ind u ih =>
    by_cases h10 : u < 10
    · rw [digs_lt h10, List.all_cons, (digit_byte h10).1]; rfl
    · rw [digs_ge h10, List.all_append, ih (u / 10) (by omega), List.all_cons, (digit_byte (by omega : u % 10 < 10)).1]; rfl
theorem digs_head : ∀ u : Nat, ∃ b t, digs u = b :: t ∧ (u ≠ 0 → b ≠ 48) := by
  intro u
  induction u using Nat.strongRecOn with
  | ind u ih =>
    by_cases h10 : u < 10
    · refine ⟨_, _, digs_lt h10, fun h0 h => ?_⟩
      have := (digit_byte h10).2
      rw [h] at this
      have h48 : (48 : UInt8).toNat = 48 := rfl
      omega
    · obtain ⟨b, t, h1, h2⟩ := ih (u / 10) (by omega)
      exact ⟨b, t ++ [UInt8.ofNat (48 + u % 10)], by rw [digs_ge h10, h1]; rfl, fun _ => h2 (by omega)⟩
theorem digs_len (u : Nat) : (digs u).length = (revD u).length := by unfold digs; simp
theorem number_digs (u : Nat) : number (digs u) = if u < 1000000000000000000 then some (u : Int) else none := by
  obtain ⟨b, t, h1, h2⟩ := digs_head u
  by_cases h : u < 1000000000000000000
  · rw [if_pos h, ← numL_digs u h]
    have hl := revD_len 17 u (by omega)
    rw [← digs_len] at hl
    have d1 : decide (18 < (digs u).length) = false := decide_eq_false (by omega)
    unfold number
    rw [h1] at d1 ⊢
    dsimp only
    rw [d1, cf]
    by_cases h0 : u = 0
    · subst h0
      have : t = [] := by
        have := digs_lt (n := 0) (by omega)
        rw [h1] at this
        exact (List.cons.inj this).2
      subst this
      rfl
    · rw [decide_eq_false (h2 h0), bAF, cf]
  · rw [if_neg h]
    have hl := revD_big 18 u (by omega)
    rw [← digs_len] at hl
    have d1 : decide (18 < (digs u).length) = true := decide_eq_true (by omega)
    unfold number
    rw [h1] at d1 ⊢
    dsimp only
    rw [d1, ct]
theorem isD_first {b : UInt8} (h : isD b = true) : isL b = false ∧ isS b = false ∧ decide (b = 10) = false ∧ (decide (b = 32) || decide (b = 9)) = false ∧ decide (b = 35) = false := by
  have := all_bytes (p := fun b => !isD b || (!isL b && (!isS b && (!decide (b = 10) && (!(decide (b = 32) || decide (b = 9)) && !decide (b = 35)))))) (by decide +kernel) b
  rw [h] at this
  simpa using this
theorem tok_digs (u : Nat) : tok (digs u) = if u < 1000000000000000000 then some (2, (u : Int)) else none := by
  unfold tok
  rw [number_digs]
  by_cases h : u < 1000000000000000000
  · rw [if_pos h, if_pos h]
  · rw [if_neg h, if_neg h]
    obtain ⟨b, t, h1, h2⟩ := digs_head u
    have ha := digs_all u
    have hl := revD_big 18 u (by omega)
    rw [← digs_len] at hl
    rw [h1] at ha hl ⊢
    have hb : isD b = true := by rw [List.all_cons] at ha; cases hb : isD b; rw [hb] at ha; cases ha; rfl
    have hw : isWord (b :: t) = false := by unfold isWord; dsimp only; rw [(isD_first hb).1, bAF, bFA]
    rw [hw]
    cases t with
    | nil => simp at hl
    | cons c t => rfl
theorem runL_whole : ∀ l : List UInt8, (l.all fun b => isL b || isD b) = true → runL l = l.length
  | [], _ => rfl
  | b :: l, h => by
    rw [List.all_cons] at h
    rw [runL_cons]
    cases hb : isL b || isD b with
    | false => rw [hb] at h; cases h
    | true => rw [hb] at h; rw [ct, runL_whole l h]; rfl
/-- One token alone. -/
theorem cutE_one (l : List UInt8) (f pos : Nat) (line : Bool) (out : List T) (hl : l ≠ []) (ha : l.all isD = true) (hf : l.length < f) :
    cutE f l pos line out = match tok l with
      | none => .err pos
      | some (k, v) => .ok false ((bif line && !out.isEmpty then out ++ [lineT] else out) ++ [tokT ⟨⟨l⟩⟩ k v]) := by
  cases l with
  | nil => exact absurd rfl hl
  | cons b t =>
    have hb : isD b = true := by rw [List.all_cons] at ha; cases hb : isD b; rw [hb] at ha; cases ha; rfl
    obtain ⟨g1, g2, g3, g4, g5⟩ := isD_first hb
    have hr : runL (b :: t) = (b :: t).length := runL_whole _ (by
      rw [List.all_eq_true] at ha ⊢
      intro x hx
      rw [ha x hx, bOT])
    have hn : stepN (b :: t) = (b :: t).length := by
      unfold stepN
      dsimp only
      rw [g3, g4, g5, hb, bOT, cf, cf, cf, ct, hr]
    rw [cutE_step f b t pos line out hf, hn]
    unfold stepO
    dsimp only
    rw [g3, g4, g5, cf, cf, cf, hn, List.take_length, List.drop_length]
    cases tok (b :: t) with
    | none => rfl
    | some kv => obtain ⟨k, v⟩ := kv; exact cutE_nil f _ _ _ (by omega)
theorem digs_ne (u : Nat) : digs u ≠ [] := by obtain ⟨b, t, h, _⟩ := digs_head u; rw [h]; simp
theorem number_neg (n : Int) (h : n < 0) : number (digL n) = none := by
  unfold digL
  rw [decide_eq_true h, ct]
  exact number_no rfl
theorem number_pos (n : Int) (h : ¬ n < 0) : number (digL n) = if n < 1000000000000000000 then some n else none := by
  unfold digL
  rw [decide_eq_false h, cf, List.nil_append, number_digs]
  by_cases h2 : n < 1000000000000000000
  · rw [if_pos h2, if_pos (by omega)]
    congr 1
    omega
  · rw [if_neg h2, if_neg (by omega)]
theorem words_spec (a0 : ByteArray) (w0 : a0.size ≤ 140737488351232) (a1 : Int) (w1 : (Lit.int .i64 a1).wf = true) : ∃ st, vr 6 0 [.t (.str a0), .t (.int .i64 a1)] ⟨[], []⟩ = some (.t (.bool true), st) := by
  refine ⟨e0, ?_⟩
  have hb : -9223372036854775808 ≤ a1 ∧ a1 < 9223372036854775808 := by
    simp [Lit.wf, IntKind.min, IntKind.max, IntKind.signed, IntKind.bits] at w1
    omega
  rw [eq6, live11]
  simp only [callK_some, asT_t, asI_int, asB_bool, asS_str, asL_list, asA_agg, consT_cons, endT_nil, asTup_tup, consV_cons, endV_nil, endB_nil, consB_cons, asArr_arr, asAv_av, asMp_map, asVar_var, isBuf_buf, isPtr_ptr, needC_t, ct, cf, bNT, bNF, bTA, bAT, bFA, bAF, bTO, bOT, bFO, bOF, dT, dF]
  by_cases hz : (1000 : Int) < (a0.size : Int)
  · rw [decide_eq_true hz, ct]
  rw [decide_eq_false hz, cf, number15, number16, digits17 a1 hb.1 hb.2, digits20 a1 hb.1 hb.2, word18, word19]
  simp only [callK_some]
  have e1 : (⟨⟨digL a1⟩⟩ : ByteArray).data.toList = digL a1 := rfl
  have same : ∀ o : Option Int, ∃ n b, numV o = .tup [.t (.int .i64 n), .t (.bool b)] := fun o => by cases o <;> exact ⟨_, _, rfl⟩
  obtain ⟨n, b, hn⟩ := same (number a0.data.toList)
  rw [hn]
  simp only [callK_some, asT_t, asI_int, asB_bool, asS_str, asL_list, asA_agg, consT_cons, endT_nil, asTup_tup, consV_cons, endV_nil, endB_nil, consB_cons, asArr_arr, asAv_av, asMp_map, asVar_var, isBuf_buf, isPtr_ptr, needC_t, ct, cf, bNT, bNF, bTA, bAT, bFA, bAF, bTO, bOT, bFO, bOF, dT, dF]
  rw [number15, e1]
  have eqb : ∀ x : Bool, (x == x) = true := fun x => by cases x <;> rfl
  by_cases h : a1 < 0
  · rw [number_neg a1 h, decide_eq_false (by omega : ¬ 0 ≤ a1)]
    simp only [callK_some, asT_t, asI_int, asB_bool, asS_str, asL_list, asA_agg, consT_cons, endT_nil, asTup_tup, consV_cons, endV_nil, endB_nil, consB_cons, asArr_arr, asAv_av, asMp_map, asVar_var, isBuf_buf, isPtr_ptr, needC_t, ct, cf, bNT, bNF, bTA, bAT, bFA, bAF, bTO, bOT, bFO, bOF, dT, dF, numV, eqb, decide_true]
  · rw [number_pos a1 h, decide_eq_true (by omega : 0 ≤ a1)]
    by_cases h2 : a1 < 1000000000000000000
    · rw [if_pos h2, decide_eq_true h2]
      simp only [callK_some, asT_t, asI_int, asB_bool, asS_str, asL_list, asA_agg, consT_cons, endT_nil, asTup_tup, consV_cons, endV_nil, endB_nil, consB_cons, asArr_arr, asAv_av, asMp_map, asVar_var, isBuf_buf, isPtr_ptr, needC_t, ct, cf, bNT, bNF, bTA, bAT, bFA, bAF, bTO, bOT, bFO, bOF, dT, dF, numV, eqb, decide_true]
    · rw [if_neg h2, decide_eq_false h2]
      simp only [callK_some, asT_t, asI_int, asB_bool, asS_str, asL_list, asA_agg, consT_cons, endT_nil, asTup_tup, consV_cons, endV_nil, endB_nil, consB_cons, asArr_arr, asAv_av, asMp_map, asVar_var, isBuf_buf, isPtr_ptr, needC_t, ct, cf, bNT, bNF, bTA, bAT, bFA, bAF, bTO, bOT, bFO, bOF, dT, dF, numV, eqb, decide_true]
theorem i64_bounds {n : Int} (w1 : (Lit.int .i64 n).wf = true) : -9223372036854775808 ≤ n ∧ n < 9223372036854775808 := by
  simp [Lit.wf, IntKind.min, IntKind.max, IntKind.signed, IntKind.bits] at w1
  omega
theorem digL_len (n : Int) (h1 : -9223372036854775808 ≤ n) (h2 : n < 9223372036854775808) : (digL n).length ≤ 31 := by
  have hlen : (revD n.natAbs).length ≤ 30 := revD_len 29 _ (by omega)
  unfold digL
  rw [List.length_append, digs_len]
  cases decide (n < 0) with
  | true => rw [ct]; simp; omega
  | false => rw [cf]; simp; omega
theorem cut_neg (n : Int) (h : n < 0) : cutA (digL n) = if -1000000000000000000 < n then .ok false [tokT ⟨#[45]⟩ 3 0, tokT ⟨⟨digs n.natAbs⟩⟩ 2 (-n)] else .err 1 := by
  unfold cutA digL
  rw [decide_eq_true h, ct, List.singleton_append, cutE_step _ 45 (digs n.natAbs) 0 false [] (by omega)]
  have hn : stepN (45 :: digs n.natAbs) = 1 := rfl
  have ho : stepO (45 :: digs n.natAbs) false [] = some (false, [tokT ⟨#[45]⟩ 3 0]) := rfl
  rw [hn, ho]
  dsimp only
  have hd : (45 :: digs n.natAbs).drop 1 = digs n.natAbs := rfl
  rw [hd, cutE_one (digs n.natAbs) _ (0 + 1) false _ (digs_ne _) (digs_all _) (by rw [List.length_cons]; omega), tok_digs]
  by_cases h2 : -1000000000000000000 < n
  · rw [if_pos h2, if_pos (by omega)]
    dsimp only
    have : (n.natAbs : Int) = -n := by omega
    rw [this]
    rfl
  · rw [if_neg h2, if_neg (by omega)]
theorem cut_pos (n : Int) (h : ¬ n < 0) : cutA (digL n) = if n < 1000000000000000000 then .ok false [tokT ⟨⟨digL n⟩⟩ 2 n] else .err 0 := by
  have e : digL n = digs n.natAbs := by unfold digL; rw [decide_eq_false h, cf]; rfl
  rw [e]
  unfold cutA
  rw [cutE_one (digs n.natAbs) _ 0 false _ (digs_ne _) (digs_all _) (by omega), tok_digs]
  by_cases h2 : n < 1000000000000000000
  · rw [if_pos h2, if_pos (by omega)]
    have : (n.natAbs : Int) = n := by omega
    rw [this]
    rfl
  · rw [if_neg h2, if_neg (by omega)]
theorem numL_some : ∀ (l : List UInt8) (n : Int), l.all isD = true → ∃ v, numL l n = some v
  | [], n, _ => ⟨n, rfl⟩
  | b :: l, n, h => by
    rw [List.all_cons] at h
    cases hb : isD b with
    | false => rw [hb] at h; cases h
    | true =>
      rw [hb] at h
      unfold numL
      rw [hb, ct]
      exact numL_some l _ h
theorem cut_both (n m : Int) (hn : 0 < n) (hm : ¬ m < 0) (hl : (digL n).length + (digL m).length ≤ 18) : ∃ v, cutA (digL n ++ digL m) = .ok false [tokT ⟨⟨digL n ++ digL m⟩⟩ 2 v] := by
  have e1 : digL n = digs n.natAbs := by unfold digL; rw [decide_eq_false (by omega), cf]; rfl
  have e2 : digL m = digs m.natAbs := by unfold digL; rw [decide_eq_false hm, cf]; rfl
  obtain ⟨b, t, h1, h2⟩ := digs_head n.natAbs
  have ha : (digL n ++ digL m).all isD = true := by rw [e1, e2, List.all_append, digs_all, digs_all]; rfl
  have hne : digL n ++ digL m ≠ [] := by rw [e1, h1]; simp
  obtain ⟨v, hv⟩ := numL_some _ 0 ha
  have ht : tok (digL n ++ digL m) = some (2, v) := by
    unfold tok number
    rw [e1, h1] at hv hl ⊢
    rw [List.cons_append] at hv ⊢
    dsimp only
    rw [decide_eq_false (by simp at hl ⊢; omega : ¬ 18 < (b :: (t ++ digL m)).length), cf, decide_eq_false (h2 (by omega)), bAF, cf, hv]
  refine ⟨v, ?_⟩
  unfold cutA
  rw [cutE_one _ _ 0 false _ hne ha (by omega), ht]
  rfl
theorem numbers_spec (a0 : Int) (w0 : (Lit.int .i64 a0).wf = true) (a1 : Int) (w1 : (Lit.int .i64 a1).wf = true) : ∃ st, vr 7 0 [.t (.int .i64 a0), .t (.int .i64 a1)] ⟨[], []⟩ = some (.t (.bool true), st) := by
  refine ⟨e0, ?_⟩
  obtain ⟨p1, p2⟩ := i64_bounds w0
  obtain ⟨q1, q2⟩ := i64_bounds w1
  have l0 := digL_len a0 p1 p2
  have l1 := digL_len a1 q1 q2
  have z0 : (⟨⟨digL a0⟩⟩ : ByteArray).size = (digL a0).length := rfl
  have z1 : (⟨⟨digL a1⟩⟩ : ByteArray).size = (digL a1).length := rfl
  have e1 : (⟨⟨digL a0⟩⟩ : ByteArray).data.toList = digL a0 := rfl
  have g0 : ∀ x y : T, ([x, y] : List T)[((0 : Int)).toNat]? = some x := fun _ _ => rfl
  have g1 : ∀ x y : T, ([x, y] : List T)[((1 : Int)).toNat]? = some y := fun _ _ => rfl
  have g2 : ∀ x : T, ([x] : List T)[((0 : Int)).toNat]? = some x := fun _ => rfl
  have n0 : (decide (0 ≤ 0)) = true := rfl
  have n1 : (decide (0 ≤ 1)) = true := rfl
  rw [eq7, live11, digits17 a0 p1 p2, digits17 a1 q1 q2]
  simp only [callK_some, asT_t, asI_int, asB_bool, asS_str, asL_list, asA_agg, consT_cons, endT_nil, asTup_tup, consV_cons, endV_nil, endB_nil, consB_cons, asArr_arr, asAv_av, asMp_map, asVar_var, isBuf_buf, isPtr_ptr, needC_t, ct, cf, bNT, bNF, bTA, bAT, bFA, bAF, bTO, bOT, bFO, bOF, dT, dF]
  rw [cut_vr _ (by omega), e1]
  by_cases h : a0 < 0
  · rw [cut_neg a0 h, decide_eq_true h]
    by_cases h2 : -1000000000000000000 < a0
    · rw [if_pos h2, decide_eq_true h2]
      have w : IntKind.i64.wrap (0 - a0) = -a0 := by rw [wrap64 (by omega) (by omega)]; omega
      have c2 : decide ((([tokT ⟨#[45]⟩ 3 0, tokT ⟨⟨digs a0.natAbs⟩⟩ 2 (-a0)] : List T).length : Int) = 2) = true := rfl
      simp only [CutE.toR, cutV_ok _ [tokT ⟨#[45]⟩ 3 0, tokT ⟨⟨digs a0.natAbs⟩⟩ 2 (-a0)] (by simp), callK_some, asT_t, asI_int, asB_bool, asS_str, asL_list, asA_agg, consT_cons, endT_nil, asTup_tup, consV_cons, endV_nil, endB_nil, consB_cons, asArr_arr, asAv_av, asMp_map, asVar_var, isBuf_buf, isPtr_ptr, needC_t, ct, cf, bNT, bNF, bTA, bAT, bFA, bAF, bTO, bOT, bFO, bOF, dT, dF, c2, n0, n1, getT_at (g0 _ _), getT_at (g1 _ _), w]
      simp [tokT, callK_some, asT_t, asI_int, asB_bool, asS_str, asL_list, asA_agg, consT_cons, endT_nil, asTup_tup, consV_cons, endV_nil, endB_nil, consB_cons, asArr_arr, asAv_av, asMp_map, asVar_var, isBuf_buf, isPtr_ptr, needC_t, ct, cf, bNT, bNF, bTA, bAT, bFA, bAF, bTO, bOT, bFO, bOF, dT, dF]
    · rw [if_neg h2, decide_eq_false h2]
      simp only [CutE.toR, cutV_err, callK_some, asT_t, asI_int, asB_bool, asS_str, asL_list, asA_agg, consT_cons, endT_nil, asTup_tup, consV_cons, endV_nil, endB_nil, consB_cons, asArr_arr, asAv_av, asMp_map, asVar_var, isBuf_buf, isPtr_ptr, needC_t, ct, cf, bNT, bNF, bTA, bAT, bFA, bAF, bTO, bOT, bFO, bOF, dT, dF]
  · rw [cut_pos a0 h, decide_eq_false h]
    by_cases h2 : a0 < 1000000000000000000
    · rw [if_pos h2, decide_eq_false (by omega : ¬ 1000000000000000000 ≤ a0)]
      have c1 : decide ((([tokT ⟨⟨digL a0⟩⟩ 2 a0] : List T).length : Int) = 1) = true := rfl
      simp only [CutE.toR, cutV_ok _ [tokT ⟨⟨digL a0⟩⟩ 2 a0] (by simp), callK_some, asT_t, asI_int, asB_bool, asS_str, asL_list, asA_agg, consT_cons, endT_nil, asTup_tup, consV_cons, endV_nil, endB_nil, consB_cons, asArr_arr, asAv_av, asMp_map, asVar_var, isBuf_buf, isPtr_ptr, needC_t, ct, cf, bNT, bNF, bTA, bAT, bFA, bAF, bTO, bOT, bFO, bOF, dT, dF, c1, n0, getT_at (g2 _)]
      unfold tokT
      simp only [callK_some, asT_t, asI_int, asB_bool, asS_str, asL_list, asA_agg, consT_cons, endT_nil, asTup_tup, consV_cons, endV_nil, endB_nil, consB_cons, asArr_arr, asAv_av, asMp_map, asVar_var, isBuf_buf, isPtr_ptr, needC_t, ct, cf, bNT, bNF, bTA, bAT, bFA, bAF, bTO, bOT, bFO, bOF, dT, dF, decide_true]
      by_cases h3 : a1 < 0
      · rw [decide_eq_true h3, ct]
      rw [decide_eq_false h3, cf]
      by_cases h4 : a0 = 0
      · rw [decide_eq_true h4, ct]
      rw [decide_eq_false h4, cf, z0, z1, wrap64 (by omega) (by omega)]
      by_cases h5 : 18 < ((digL a0).length : Int) + ((digL a1).length : Int)
      · rw [decide_eq_true h5, ct]
      have hs : (⟨⟨digL a0⟩⟩ : ByteArray) ++ ⟨⟨digL a1⟩⟩ = ⟨⟨digL a0 ++ digL a1⟩⟩ := bytes_ext (by rw [app_list])
      obtain ⟨v, hv⟩ := cut_both a0 a1 (by omega) h3 (by omega)
      have e2 : (⟨⟨digL a0 ++ digL a1⟩⟩ : ByteArray).data.toList = digL a0 ++ digL a1 := rfl
      rw [decide_eq_false h5, cf, cat_some (by omega), hs, cut_vr _ (by show (digL a0 ++ digL a1).length ≤ _; rw [List.length_append]; omega), e2, hv]
      have c3 : decide ((([tokT ⟨⟨digL a0 ++ digL a1⟩⟩ 2 v] : List T).length : Int) = 1) = true := rfl
      simp only [CutE.toR, cutV_ok _ [tokT ⟨⟨digL a0 ++ digL a1⟩⟩ 2 v] (by simp), callK_some, asT_t, asI_int, asB_bool, asS_str, asL_list, asA_agg, consT_cons, endT_nil, asTup_tup, consV_cons, endV_nil, endB_nil, consB_cons, asArr_arr, asAv_av, asMp_map, asVar_var, isBuf_buf, isPtr_ptr, needC_t, ct, cf, bNT, bNF, bTA, bAT, bFA, bAF, bTO, bOT, bFO, bOF, dT, dF, c3, n0, getT_at (g2 _)]
      unfold tokT
      simp only [callK_some, asT_t, asI_int, asB_bool, asS_str, asL_list, asA_agg, consT_cons, endT_nil, asTup_tup, consV_cons, endV_nil, endB_nil, consB_cons, asArr_arr, asAv_av, asMp_map, asVar_var, isBuf_buf, isPtr_ptr, needC_t, ct, cf, bNT, bNF, bTA, bAT, bFA, bAF, bTO, bOT, bFO, bOF, dT, dF]
      rw [cat_some (by omega), hs]
      simp
    · rw [if_neg h2, decide_eq_true (by omega : 1000000000000000000 ≤ a0)]
      simp only [CutE.toR, cutV_err, callK_some, asT_t, asI_int, asB_bool, asS_str, asL_list, asA_agg, consT_cons, endT_nil, asTup_tup, consV_cons, endV_nil, endB_nil, consB_cons, asArr_arr, asAv_av, asMp_map, asVar_var, isBuf_buf, isPtr_ptr, needC_t, ct, cf, bNT, bNF, bTA, bAT, bFA, bAF, bTO, bOT, bFO, bOF, dT, dF]
end Go.Proofs.Ytemdhiejbncafaa.VM
end
