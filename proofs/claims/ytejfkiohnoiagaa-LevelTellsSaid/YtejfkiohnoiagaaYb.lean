/- Merged: Yb1 Yc1 Yc2. Conditions: none. -/
import Derived.Test.YtejfkiohnoiagaaYa
set_option linter.all false
section
namespace Go.Proofs.Ytejfkiohnoiagaa.VM
set_option linter.unusedSectionVars false
open Go AM
section
variable {k s : Int} {pz cz : Bool} {pos crd : List Int}
theorem many40 (ahead : Nat) (ha : ahead ≤ 1048576) (hs : 0 ≤ s) (hs2 : s ≤ 2147483648) : vr 40 0 [.t (lvT k s pz pos cz crd), .t (.int .i64 (ahead : Int))] e0 = some (.t (.int .i64 (belowN k s crd (ahead : Int))), e0) := by
  rw [eq40, R40, rwhole21, callK_some, asT_t, asB_bool, endB_nil]
  unfold belowN
  cases whole k with
  | true =>
    have h1 := Int.mul_le_mul (by omega : (ahead : Int) ≤ 1048576) hs2 hs (by omega)
    have h2 := Int.mul_nonneg (by omega : 0 ≤ (ahead : Int)) hs
    rw [ct, wrap64 (by omega) (by omega), if_pos rfl]
  | false => rw [cf, ints_len, if_neg (by simp)]
theorem L4214_spec (n : Nat) (hn : n ≤ 1048576) (hl : pos.length = n + 1) : ∀ (m i : Nat), m + i = n →
    ((∃ j, i ≤ j ∧ j < n ∧ nth pos (j + 1) < nth pos j) ∧ L42_14 (n : Int) (i : Int) k s pz (ints pos) cz (ints crd) = some (.t (.int .i64 1), e0)) ∨
    ((∀ j, i ≤ j → j < n → nth pos j ≤ nth pos (j + 1)) ∧ L42_14 (n : Int) (i : Int) k s pz (ints pos) cz (ints crd) = some (.t (.int .i64 0), e0))
  | 0, i, h => by
    have d : decide ((i : Int) < (n : Int)) = false := decide_eq_false (by omega)
    rw [L42_14_eq, RL42_14, d, cf]
    exact .inr ⟨fun j h1 h2 => by omega, rfl⟩
  | m + 1, i, h => by
    have d : decide ((i : Int) < (n : Int)) = true := decide_eq_true (by omega)
    have ih := L4214_spec n hn hl m (i + 1) (by omega)
    rw [L42_14_eq, RL42_14, d, ct, natWrap (by omega), needNat, Int.toNat_natCast, getI (by omega), needNat, Int.toNat_natCast, getI (by omega)]
    by_cases hlt : nth pos (i + 1) < nth pos i
    · rw [decide_eq_true hlt, ct]
      exact .inl ⟨⟨i, by omega, by omega, hlt⟩, rfl⟩
    · rw [decide_eq_false hlt, cf]
      rcases ih with ⟨⟨j, h1, h2, h3⟩, h4⟩ | ⟨h1, h2⟩
      · exact .inl ⟨⟨j, by omega, h2, h3⟩, h4⟩
      · refine .inr ⟨fun j h3 h4 => ?_, h2⟩
        by_cases hj : j = i
        · subst hj; omega
        · exact h1 j (by omega) h4
theorem sorted_iff (n : Nat) (hl : pos.length = n + 1) : Sorted pos ↔ ∀ j, 0 ≤ j → j < n → nth pos j ≤ nth pos (j + 1) := by
  constructor
  · intro h j _ hj
    have := h (j + 1) (by omega) (by omega)
    simpa using this
  · intro h j h1 h2
    have := h (j - 1) (by omega) (by omega)
    have e : j - 1 + 1 = j := by omega
    rwa [e] at this
theorem form42 (n : Nat) (hn : n ≤ 1048576) (hp : pos.length ≤ 4611686018427387903) (hc : crd.length ≤ 4611686018427387903) : ∃ e : Int, vr 42 0 [.t (lvT k s pz pos cz crd), .t (.int .i64 (n : Int))] e0 = some (.t (.int .i64 e), e0) ∧ ((e = 0 ∧ Formed k s pos crd (n : Int)) ∨ (e = 1 ∧ ¬ Formed k s pos crd (n : Int))) := by
  have no : ¬ Formed k s pos crd (n : Int) → ∃ e : Int, (some (V.t (.int .i64 1), e0) : Option Res) = some (.t (.int .i64 e), e0) ∧ ((e = 0 ∧ Formed k s pos crd (n : Int)) ∨ (e = 1 ∧ ¬ Formed k s pos crd (n : Int))) := fun h => ⟨1, rfl, .inr ⟨rfl, h⟩⟩
  have yes : Formed k s pos crd (n : Int) → ∃ e : Int, (some (V.t (.int .i64 0), e0) : Option Res) = some (.t (.int .i64 e), e0) ∧ ((e = 0 ∧ Formed k s pos crd (n : Int)) ∨ (e = 1 ∧ ¬ Formed k s pos crd (n : Int))) := fun h => ⟨0, rfl, .inl ⟨rfl, h⟩⟩
  have tail : (k = 1 ∨ k = 2) → ∃ e : Int, (bif (!decide (((ints pos).length : Int) = (IntKind.i64.wrap ((n : Int) + 1)))) then
        (some ((.t (.int .i64 1)), e0) : Option Res)
      else
        needC (decide (0 ≤ 0)) fun _ =>
        getT (ints pos) ((0 : Int)).toNat fun e_9 =>
        asI .i64 e_9 fun x_10 =>
      (bif (!decide (x_10 = 0)) then
        some ((.t (.int .i64 1)), e0)
      else
        needC (decide (0 ≤ (n : Int))) fun _ =>
        getT (ints pos) ((n : Int)).toNat fun e_11 =>
        asI .i64 e_11 fun x_12 =>
      (bif (!decide (x_12 = ((ints crd).length : Int))) then
        some ((.t (.int .i64 1)), e0)
      else
        L42_14 (n : Int) 0 k s pz (ints pos) cz (ints crd)))) = some (.t (.int .i64 e), e0) ∧ ((e = 0 ∧ Formed k s pos crd (n : Int)) ∨ (e = 1 ∧ ¬ Formed k s pos crd (n : Int))) := by
    intro hk
    have key : Formed k s pos crd (n : Int) ↔ (pos.length : Int) = (n : Int) + 1 ∧ nth pos 0 = 0 ∧ nth pos n = (crd.length : Int) ∧ Sorted pos := by
      constructor
      · intro h
        rcases h with ⟨h, _⟩ | ⟨h, _⟩ | ⟨_, h1, h2, h3, h4⟩
        · omega
        · omega
        · rw [Int.toNat_natCast] at h3; exact ⟨h1, h2, h3, h4⟩
      · rintro ⟨h1, h2, h3, h4⟩
        exact .inr (.inr ⟨hk, h1, h2, by rw [Int.toNat_natCast]; exact h3, h4⟩)
    rw [ints_len, ints_len, natWrap (by omega)]
    by_cases h1 : (pos.length : Int) = ((n + 1 : Nat) : Int)
    · have hl : pos.length = n + 1 := by omega
      rw [decide_eq_true h1, bNT, cf, need00]
      have e00 : ((0 : Int)).toNat = 0 := rfl
      rw [e00, getI (by omega)]
      by_cases h2 : nth pos 0 = 0
      · rw [decide_eq_true h2, bNT, cf, needNat, Int.toNat_natCast, getI (by omega)]
        by_cases h3 : nth pos n = (crd.length : Int)
        · rw [decide_eq_true h3, bNT, cf]
          rcases L4214_spec (k := k) (s := s) (pz := pz) (cz := cz) (crd := crd) n hn hl n 0 (by omega) with ⟨⟨j, a1, a2, a3⟩, a4⟩ | ⟨a1, a2⟩
          · refine ⟨1, a4, .inr ⟨rfl, fun h => ?_⟩⟩
            have := (sorted_iff n hl).1 (key.1 h).2.2.2 j a1 a2
            omega
          · exact ⟨0, a2, .inl ⟨rfl, key.2 ⟨by omega, h2, h3, (sorted_iff n hl).2 a1⟩⟩⟩
        · rw [decide_eq_false h3, bNF, ct]; exact no fun h => h3 (key.1 h).2.2.1
      · rw [decide_eq_false h2, bNF, ct]; exact no fun h => h2 (key.1 h).2.1
    · rw [decide_eq_false h1, bNF, ct]; exact no fun h => h1 (by have := (key.1 h).1; omega)
  rw [eq42, R42, rwhole21, callK_some, asT_t, asB_bool, endB_nil]
  cases hw : whole k with
  | true =>
    have hk : k = 0 ∨ k = 4 := by
      unfold whole at hw
      simpa using hw
    rw [ct, ints_len, ints_len, wrap64 (by omega) (by omega)]
    by_cases h1 : 0 < (pos.length : Int) + (crd.length : Int)
    · rw [decide_eq_true h1, ct]
      refine no fun h => ?_
      rcases h with ⟨_, rfl, rfl⟩ | ⟨h, _⟩ | ⟨h, _⟩
      · simp at h1
      · omega
      · omega
    · rw [decide_eq_false h1, cf]
      have hpos : pos = [] := List.length_eq_zero_iff.1 (by omega)
      have hcrd : crd = [] := List.length_eq_zero_iff.1 (by omega)
      by_cases h4 : k = 4
      · rw [decide_eq_true h4, ct]
        by_cases hs : s = 0
        · rw [decide_eq_true hs, ct]
          refine no fun h => ?_
          rcases h with ⟨h | ⟨_, h⟩, _⟩ | ⟨h, _⟩ | ⟨h, _⟩
          · omega
          · exact h hs
          · omega
          · omega
        · rw [decide_eq_false hs, cf]
          exact yes (.inl ⟨.inr ⟨h4, hs⟩, hpos, hcrd⟩)
      · rw [decide_eq_false h4, cf]
        exact yes (.inl ⟨.inl (by omega), hpos, hcrd⟩)
  | false =>
    have hk : k ≠ 0 ∧ k ≠ 4 := by
      unfold whole at hw
      simpa using hw
    rw [cf]
    by_cases h3 : k = 3
    · rw [decide_eq_true h3, ct, ints_len, ints_len]
      by_cases h1 : 0 < (pos.length : Int)
      · rw [decide_eq_true h1, ct]
        refine no fun h => ?_
        rcases h with ⟨h, _⟩ | ⟨_, rfl, _⟩ | ⟨h, _⟩
        · omega
        · simp at h1
        · omega
      · rw [decide_eq_false h1, cf]
        by_cases h2 : (crd.length : Int) = (n : Int)
        · rw [decide_eq_true h2, bNT, cf]
          exact yes (.inr (.inl ⟨h3, List.length_eq_zero_iff.1 (by omega), h2⟩))
        · rw [decide_eq_false h2, bNF, ct]
          refine no fun h => ?_
          rcases h with ⟨h, _⟩ | ⟨_, _, h⟩ | ⟨h, _⟩
          · omega
          · exact h2 h
          · omega
    · rw [decide_eq_false h3, cf]
      by_cases h1 : k = 1
      · rw [decide_eq_true h1, bNT, cf]; exact tail (.inl h1)
      · rw [decide_eq_false h1, bNF, ct]
        by_cases h2 : k = 2
        · rw [decide_eq_true h2, bNT, cf]; exact tail (.inr h2)
        · rw [decide_eq_false h2, bNF, ct]
          refine no fun h => ?_
          rcases h with ⟨h, _⟩ | ⟨h, _⟩ | ⟨h, _⟩ <;> omega
theorem L289_spec (n : Int) (hc : crd.length ≤ 4611686018427387903) : ∀ (m i : Nat), m + i = crd.length →
    ((∃ j, i ≤ j ∧ j < crd.length ∧ (nth crd j < 0 ∨ s ≤ nth crd j)) ∧ L28_9 n cz (ints crd) (crd.length : Int) (i : Int) k s pz (ints pos) cz (ints crd) = some (.t (.int .i64 3), e0)) ∨
    ((∀ j, i ≤ j → j < crd.length → 0 ≤ nth crd j ∧ nth crd j < s) ∧ L28_9 n cz (ints crd) (crd.length : Int) (i : Int) k s pz (ints pos) cz (ints crd) = L28_9 n cz (ints crd) (crd.length : Int) (crd.length : Int) k s pz (ints pos) cz (ints crd))
  | 0, i, h => by
    have e : i = crd.length := by omega
    subst e
    exact .inr ⟨fun j h1 h2 => by omega, rfl⟩
  | m + 1, i, h => by
    have d : decide ((i : Int) < (crd.length : Int)) = true := decide_eq_true (by omega)
    have ih := L289_spec n hc m (i + 1) (by omega)
    have eq : L28_9 n cz (ints crd) (crd.length : Int) (i : Int) k s pz (ints pos) cz (ints crd) = (bif decide (nth crd i < 0) then some (.t (.int .i64 3), e0) else bif decide (s ≤ nth crd i) then some (.t (.int .i64 3), e0) else L28_9 n cz (ints crd) (crd.length : Int) ((i + 1 : Nat) : Int) k s pz (ints pos) cz (ints crd)) := by
      conv => lhs; rw [L28_9_eq, RL28_9, d, ct, needNat, Int.toNat_natCast, getI (by omega), natWrap (by omega)]
    rw [eq]
    by_cases h1 : nth crd i < 0
    · rw [decide_eq_true h1, ct]
      exact .inl ⟨⟨i, by omega, by omega, .inl h1⟩, rfl⟩
    rw [decide_eq_false h1, cf]
    by_cases h2 : s ≤ nth crd i
    · rw [decide_eq_true h2, ct]
      exact .inl ⟨⟨i, by omega, by omega, .inr h2⟩, rfl⟩
    rw [decide_eq_false h2, cf]
    rcases ih with ⟨⟨j, a1, a2, a3⟩, a4⟩ | ⟨a1, a2⟩
    · exact .inl ⟨⟨j, by omega, a2, a3⟩, a4⟩
    · refine .inr ⟨fun j h3 h4 => ?_, a2⟩
      by_cases hj : j = i
      · subst hj; omega
      · exact a1 j (by omega) h4
/-- What is asked of neighbours. -/
def okJ (k : Int) (crd : List Int) (j : Nat) : Prop := (if k = 2 then (0 : Int) else 1) ≤ nth crd j - nth crd (j - 1)
theorem L2820_spec (hk : k = 1 ∨ k = 2) (n p a b : Nat) (hn : n ≤ 1048576) (hl : pos.length = n + 1) (hp : p < n) (hb : nth pos (p + 1) = (b : Int)) (hbl : b ≤ crd.length) (hc : crd.length ≤ 65536) (hr : ∀ c ∈ crd, 0 ≤ c ∧ c < 2147483648) : ∀ (m i : Nat), b ≤ m + i → 1 ≤ i → a + 1 ≤ i → i ≤ 65537 →
    ((∃ j, i ≤ j ∧ j < b ∧ ¬ okJ k crd j) ∧ L28_20 (p : Int) (i : Int) (n : Int) (p : Int) k s pz (ints pos) cz (ints crd) = some (.t (.int .i64 1), e0)) ∨
    ((∀ j, i ≤ j → j < b → okJ k crd j) ∧ L28_20 (p : Int) (i : Int) (n : Int) (p : Int) k s pz (ints pos) cz (ints crd) = L28_17 (n : Int) ((p + 1 : Nat) : Int) k s pz (ints pos) cz (ints crd))
  | m, i, h, h1, ha, hi => by
    by_cases hib : i < b
    · match m, h with
      | 0, h => omega
      | m + 1, h =>
        have d : decide ((i : Int) < (b : Int)) = true := decide_eq_true (by omega)
        have ih := L2820_spec hk n p a b hn hl hp hb hbl hc hr m (i + 1) (by omega) (by omega) (by omega) (by omega)
        have hw : IntKind.i64.wrap ((i : Int) - 1) = ((i - 1 : Nat) : Int) := by rw [wrap64 (by omega) (by omega)]; omega
        have more : okJ k crd i → ((∃ j, i ≤ j ∧ j < b ∧ ¬ okJ k crd j) ∧ L28_20 (p : Int) ((i + 1 : Nat) : Int) (n : Int) (p : Int) k s pz (ints pos) cz (ints crd) = some (.t (.int .i64 1), e0)) ∨
            ((∀ j, i ≤ j → j < b → okJ k crd j) ∧ L28_20 (p : Int) ((i + 1 : Nat) : Int) (n : Int) (p : Int) k s pz (ints pos) cz (ints crd) = L28_17 (n : Int) ((p + 1 : Nat) : Int) k s pz (ints pos) cz (ints crd)) := by
          intro ho
          rcases ih with ⟨⟨j, a1, a2, a3⟩, a4⟩ | ⟨a1, a2⟩
          · exact .inl ⟨⟨j, by omega, a2, a3⟩, a4⟩
          · refine .inr ⟨fun j h3 h4 => ?_, a2⟩
            by_cases hj : j = i
            · subst hj; exact ho
            · exact a1 j (by omega) h4
        rw [L28_20_eq, RL28_20, natWrap (by omega), needNat, Int.toNat_natCast, getI (by omega), hb, d, ct, needNat, Int.toNat_natCast, getI (by omega), hw, needNat, Int.toNat_natCast, getI (by omega)]
        by_cases hlt : nth crd i < nth crd (i - 1)
        · rw [decide_eq_true hlt, ct]
          refine .inl ⟨⟨i, by omega, hib, fun ho => ?_⟩, rfl⟩
          unfold okJ at ho
          split at ho <;> omega
        rw [decide_eq_false hlt, cf]
        by_cases h2 : k = 1
        · rw [decide_eq_true h2, ct, needNat, getI (by omega), needNat, getI (by omega)]
          by_cases he : nth crd i = nth crd (i - 1)
          · rw [decide_eq_true he, ct]
            refine .inl ⟨⟨i, by omega, hib, fun ho => ?_⟩, rfl⟩
            unfold okJ at ho
            rw [if_neg (by omega : ¬ k = 2)] at ho
            omega
          · rw [decide_eq_false he, cf, natWrap (by omega)]
            exact more (by unfold okJ; rw [if_neg (by omega : ¬ k = 2)]; omega)
        · rw [decide_eq_false h2, cf, natWrap (by omega)]
          have k2 : k = 2 := hk.resolve_left h2
          have hge : nth crd (i - 1) ≤ nth crd i := Int.not_lt.1 hlt
          exact more (by unfold okJ; rw [if_pos k2]; exact Int.sub_nonneg_of_le hge)
    · have d : decide ((i : Int) < (b : Int)) = false := decide_eq_false (by omega)
      rw [L28_20_eq, RL28_20, natWrap (by omega), needNat, Int.toNat_natCast, getI (by omega), hb, d, cf]
      exact .inr ⟨fun j h1 h2 => by omega, rfl⟩
theorem L2817_spec (hk : k = 1 ∨ k = 2) (n : Nat) (hn : n ≤ 1048576) (hl : pos.length = n + 1) (h0 : nth pos 0 = 0) (hlast : nth pos n = (crd.length : Int)) (hs : Sorted pos) (hc : crd.length ≤ 65536) (hr : ∀ c ∈ crd, 0 ≤ c ∧ c < 2147483648) : ∀ (m p : Nat), m + p = n →
    ((∃ q, p ≤ q ∧ q < n ∧ ∃ i : Nat, nth pos q < (i : Int) ∧ (i : Int) < nth pos (q + 1) ∧ ¬ okJ k crd i) ∧ L28_17 (n : Int) (p : Int) k s pz (ints pos) cz (ints crd) = some (.t (.int .i64 1), e0)) ∨
    ((∀ q, p ≤ q → q < n → ∀ i : Nat, nth pos q < (i : Int) → (i : Int) < nth pos (q + 1) → okJ k crd i) ∧ L28_17 (n : Int) (p : Int) k s pz (ints pos) cz (ints crd) = some (.t (.int .i64 0), e0))
  | 0, p, h => by
    have d : decide ((p : Int) < (n : Int)) = false := decide_eq_false (by omega)
    rw [L28_17_eq, RL28_17, d, cf]
    exact .inr ⟨fun q h1 h2 => by omega, rfl⟩
  | m + 1, p, h => by
    have d : decide ((p : Int) < (n : Int)) = true := decide_eq_true (by omega)
    have ih := L2817_spec hk n hn hl h0 hlast hs hc hr m (p + 1) (by omega)
    have m1 := sorted_le hs p 0 (by omega) (by omega)
    have m2 := sorted_le hs (p + 1) p (by omega) (by omega)
    have m3 := sorted_le hs n (p + 1) (by omega) (by omega)
    obtain ⟨a, ha⟩ : ∃ a : Nat, nth pos p = (a : Int) := ⟨(nth pos p).toNat, by omega⟩
    obtain ⟨b, hb⟩ : ∃ b : Nat, nth pos (p + 1) = (b : Int) := ⟨(nth pos (p + 1)).toNat, by omega⟩
    rw [L28_17_eq, RL28_17, d, ct, needNat, Int.toNat_natCast, getI (by omega), ha, natWrap (by omega)]
    rcases L2820_spec (s := s) (pz := pz) (cz := cz) hk n p a b hn hl (by omega) hb (by omega) hc hr (b - a) (a + 1) (by omega) (by omega) (by omega) (by omega) with ⟨⟨j, a1, a2, a3⟩, a4⟩ | ⟨a1, a2⟩
    · exact .inl ⟨⟨p, by omega, by omega, j, by omega, by omega, a3⟩, a4⟩
    · rw [a2]
      rcases ih with ⟨⟨q, b1, b2, b3⟩, b4⟩ | ⟨b1, b2⟩
      · exact .inl ⟨⟨q, by omega, b2, b3⟩, b4⟩
      · refine .inr ⟨fun q h1 h2 i h3 h4 => ?_, b2⟩
        by_cases hq : q = p
        · subst hq; exact a1 i (by omega) (by omega)
        · exact b1 q (by omega) h2 i h3 h4
/-- The reference's check tells the same. -/
theorem check28 (ahead : Int) (hp : pos.length ≤ 4611686018427387903) (hc : crd.length ≤ 4611686018427387903) : vr 28 0 [.t (lvT k s pz pos cz crd), .t (.int .i64 ahead)] e0 = some (.t (.int .i64 (checkE k s pos crd ahead)), e0) := by
  rw [eq28, R28]
  by_cases g1 : ahead < 0
  · rw [decide_eq_true g1, ct, checkE1 (by omega)]
  rw [decide_eq_false g1, cf]
  by_cases g2 : 1048576 < ahead
  · rw [decide_eq_true g2, ct, checkE1 (by omega)]
  rw [decide_eq_false g2, cf]
  by_cases g3 : s < 0
  · rw [decide_eq_true g3, ct, checkE1 (by omega)]
  rw [decide_eq_false g3, cf]
  by_cases g4 : 2147483648 < s
  · rw [decide_eq_true g4, ct, checkE1 (by omega)]
  rw [decide_eq_false g4, cf]
  obtain ⟨n, rfl⟩ : ∃ n : Nat, ahead = (n : Int) := ⟨ahead.toNat, by omega⟩
  obtain ⟨e, h1, h2⟩ := form42 (k := k) (s := s) (pz := pz) (cz := cz) (pos := pos) (crd := crd) n (by omega) hp hc
  rw [h1, callK_some, asT_t, asI_int, endB_nil]
  rcases h2 with ⟨rfl, hf⟩ | ⟨rfl, hf⟩
  · rw [decide_eq_true rfl, bNT, cf, ints_len]
    by_cases g5 : (65536 : Int) < (crd.length : Int)
    · rw [decide_eq_true g5, ct, checkE3 (by omega) hf (.inl g5)]
    rw [decide_eq_false g5, cf, many40 n (by omega) (by omega) (by omega), callK_some, asT_t, asI_int, endB_nil]
    by_cases g6 : 1048576 < belowN k s crd (n : Int)
    · rw [decide_eq_true g6, ct, checkE3 (by omega) hf (.inr g6)]
    rw [decide_eq_false g6, cf]
    rcases L289_spec (k := k) (s := s) (pz := pz) (cz := cz) (pos := pos) (crd := crd) (n : Int) hc crd.length 0 (by omega) with ⟨⟨j, a1, a2, a3⟩, a4⟩ | ⟨a1, a2⟩
    · refine Eq.trans a4 ?_
      rw [checkE4 (by omega) hf (by omega) ⟨_, nth_mem a2, a3⟩]
    · refine Eq.trans a2 ?_
      have hrng : ¬ ∃ c ∈ crd, c < 0 ∨ s ≤ c := by
        rintro ⟨c, hc, hcc⟩
        obtain ⟨j, hj⟩ := List.getElem?_of_mem hc
        have hjl : j < crd.length := (List.getElem?_eq_some_iff.1 hj).1
        rw [nth_at hjl] at hj
        cases hj
        have := a1 j (by omega) hjl
        omega
      have d : decide ((crd.length : Int) < (crd.length : Int)) = false := decide_eq_false (by omega)
      rw [L28_9_eq, RL28_9, d, cf, rwhole21, callK_some, asT_t, asB_bool, endB_nil]
      have nok : ¬ (k = 1 ∨ k = 2) → checkE k s pos crd (n : Int) = 0 := fun h => checkE0 (by omega) hf (by omega) hrng fun h' => absurd h' h
      cases hw : whole k with
      | true =>
        have hk : k = 0 ∨ k = 4 := by
          unfold whole at hw
          simpa using hw
        rw [ct, nok (by omega)]
      | false =>
        rw [cf]
        by_cases h3 : k = 3
        · rw [decide_eq_true h3, ct, nok (by omega)]
        · rw [decide_eq_false h3, cf]
          rcases hf with ⟨h, _⟩ | ⟨h, _⟩ | ⟨hk, f1, f2, f3, f4⟩
          · exfalso; unfold whole at hw; rcases h with rfl | ⟨rfl, _⟩ <;> simp at hw
          · exact absurd h h3
          · have hf : Formed k s pos crd (n : Int) := .inr (.inr ⟨hk, f1, f2, f3, f4⟩)
            rw [Int.toNat_natCast] at f3
            rcases L2817_spec (s := s) (pz := pz) (cz := cz) hk n (by omega) (by omega) f2 f3 f4 (by omega) (fun c hc => by
                have : ¬ (c < 0 ∨ s ≤ c) := fun h => hrng ⟨c, hc, h⟩
                omega) n 0 (by omega) with ⟨⟨q, b1, b2, i, b3, b4, b5⟩, b6⟩ | ⟨b1, b2⟩
            · refine Eq.trans b6 ?_
              rw [checkE5 (by omega) hf (by omega) hrng fun h => b5 (by have := h hk q (by rw [Int.toNat_natCast]; exact b2) i b3 b4; exact this)]
            · refine Eq.trans b2 ?_
              rw [checkE0 (by omega) hf (by omega) hrng fun _ q hq i h1 h2 => b1 q (by omega) (by rw [Int.toNat_natCast] at hq; exact hq) i h1 h2]
  · rw [decide_eq_false (by omega : ¬ (1 : Int) = 0), bNF, ct, checkE2 (by omega) hf]
end
end Go.Proofs.Ytejfkiohnoiagaa.VM
end

section
namespace Go.Proofs.Ytejfkiohnoiagaa.VM
set_option linter.unusedSectionVars false
open Go AM
section
variable {k s : Int} {pz cz : Bool} {pos crd : List Int}
theorem checkE_valid (ahead : Int) (hp : pos.length ≤ 70000) (hc : crd.length ≤ 70000) : checkE k s pos crd ahead = 0 ↔ Valid k s pos crd ahead := by
  obtain ⟨e, _, h2, _, _, h5⟩ := check19 (k := k) (s := s) (pz := false) (cz := false) (pos := pos) (crd := crd) ahead (by omega) (by omega)
  rw [← h5]; exact h2
theorem check19E (ahead : Int) (hp : pos.length ≤ 70000) (hc : crd.length ≤ 70000) : vr 19 0 [.t (lvT k s pz pos cz crd), .t (.int .i64 ahead)] e0 = some (.t (.int .i64 (checkE k s pos crd ahead)), e0) := by
  obtain ⟨e, h1, _, _, _, h5⟩ := check19 (k := k) (s := s) (pz := pz) (cz := cz) (pos := pos) (crd := crd) ahead (by omega) (by omega)
  rw [h1, h5]
theorem below_pair (ahead : Int) (hp : pos.length ≤ 70000) (hc : crd.length ≤ 70000) : ∃ x e : Int, vr 13 0 [.t (lvT k s pz pos cz crd), .t (.int .i64 ahead)] e0 = some (.tup [.t (.int .i64 x), .t (.int .i64 e)], e0) ∧
    vr 23 0 [.t (lvT k s pz pos cz crd), .t (.int .i64 ahead)] e0 = some (.tup [.t (.int .i64 x), .t (.int .i64 e)], e0) := by
  by_cases he : checkE k s pos crd ahead = 0
  · have v := (checkE_valid ahead hp hc).1 he
    have h0 := v.a0
    have h1 := v.a1
    obtain ⟨n, rfl⟩ : ∃ n : Nat, ahead = (n : Int) := ⟨ahead.toNat, by omega⟩
    refine ⟨_, 0, below13 n v (by omega), ?_⟩
    rw [eq23, R23, check28 _ (by omega) (by omega), callK_some, asT_t, asI_int, endB_nil, decide_eq_true he, bNT, cf, many40 n (by omega) v.s0 v.s1, callK_some, asT_t, asI_int, endB_nil]
  · refine ⟨0, checkE k s pos crd ahead, ?_, ?_⟩
    · rw [eq13, R13, check19E _ hp hc, callK_some, asT_t, asI_int, endB_nil, decide_eq_false he, bNF, ct]
    · rw [eq23, R23, check28 _ (by omega) (by omega), callK_some, asT_t, asI_int, endB_nil, decide_eq_false he, bNF, ct]
theorem ready30E (ahead p : Int) (hp : pos.length ≤ 70000) (hc : crd.length ≤ 70000) : vr 30 0 [.t (lvT k s pz pos cz crd), .t (.int .i64 ahead), .t (.int .i64 p)] e0 = some (.t (.int .i64 (if checkE k s pos crd ahead = 0 then (if p < 0 ∨ ahead ≤ p then 5 else 0) else checkE k s pos crd ahead)), e0) := by
  rw [eq30, R30, check19E _ hp hc, callK_some, asT_t, asI_int, endB_nil]
  by_cases he : checkE k s pos crd ahead = 0
  · rw [decide_eq_true he, bNT, cf, if_pos he]
    by_cases h1 : p < 0
    · rw [decide_eq_true h1, ct, if_pos (.inl h1)]
    · rw [decide_eq_false h1, cf]
      by_cases h2 : ahead ≤ p
      · rw [decide_eq_true h2, ct, if_pos (.inr h2)]
      · rw [decide_eq_false h2, cf, if_neg (by omega : ¬ (p < 0 ∨ ahead ≤ p))]
  · rw [decide_eq_false he, bNF, ct, if_neg he]
theorem take_one {pl : List (Int × Int)} {i : Nat} {q : Int × Int} (hq : pl[i]? = some q) : ((pl.take i).map fun q => kidT q.1 q.2) ++ [kidT q.1 q.2] = (pl.take (i + 1)).map fun q => kidT q.1 q.2 := by
  rw [List.take_add_one, hq, List.map_append]; rfl
theorem L418_spec (n : Nat) (v : Valid k s pos crd (n : Int)) (hw : whole k = true) (p : Nat) (hp : p < n) (a b : Nat) (ha : segA k s pos p = (a : Int)) (hb : segA k s pos (p + 1) = (b : Int)) (hab : a ≤ b) (hbb : b ≤ 1048576) (P C : List T) : ∀ (m i : Nat) (z : Bool), m + i = b - a →
    ∃ z', L41_8 (p : Int) s (i : Int) k s pz P cz C z (((kidL k s pos crd p).take i).map fun q => kidT q.1 q.2) = some (.t (.list 2 z' ((kidL k s pos crd p).map fun q => kidT q.1 q.2)), e0)
  | 0, i, z, h => by
    have hs : (b : Int) - a = s := by
      rw [segA_whole hw] at ha hb
      rw [Int.natCast_add, Int.add_mul] at hb
      omega
    have d : decide ((i : Int) < s) = false := decide_eq_false (by omega)
    have hl := kidL_len (crd := crd) p a b ha hb
    rw [L41_8_eq, RL41_8, d, cf, List.take_of_length_le (by omega)]
    exact ⟨z, rfl⟩
  | m + 1, i, z, h => by
    have hs : (b : Int) - a = s := by
      rw [segA_whole hw] at ha hb
      rw [Int.natCast_add, Int.add_mul] at hb
      omega
    have d : decide ((i : Int) < s) = true := decide_eq_true (by omega)
    have hq := kidL_at (crd := crd) p a b ha hb (i := i) (by omega)
    have hl := kidL_len (crd := crd) p a b ha hb
    have hps : (p : Int) * s = (a : Int) := by rw [← segA_whole (pos := pos) hw]; exact ha
    have hat : atOf k crd (a : Int) ((a + i : Nat) : Int) = (i : Int) := by
      unfold atOf
      rw [hw, if_pos rfl]; omega
    rw [hat] at hq
    obtain ⟨z', ih⟩ := L418_spec n v hw p hp a b ha hb hab hbb P C m (i + 1) (z || true) (by omega)
    rw [← take_one hq] at ih
    have n1 : (decide (((((kidL k s pos crd p).take i).map fun q => kidT q.1 q.2).length + 1) * (16 + 1) ≤ 70368744177664) && decide (16 ≤ 1048576)) = true := by
      rw [decide_eq_true (by rw [List.length_map, List.length_take]; omega)]; rfl
    have e1 : IntKind.i64.wrap (IntKind.i64.wrap ((p : Int) * s) + (i : Int)) = ((a + i : Nat) : Int) := by
      rw [hps, wrap64 (n := (a : Int)) (by omega) (by omega), wrap64 (by omega) (by omega)]; omega
    refine ⟨z', ?_⟩
    rw [L41_8_eq, RL41_8, d, ct, needC_true n1, natWrap (by omega), e1]
    exact ih
theorem L413_spec (n : Nat) (v : Valid k s pos crd (n : Int)) (hk : k = 1 ∨ k = 2) (p : Nat) (hp : p < n) (a b : Nat) (ha : segA k s pos p = (a : Int)) (hb : segA k s pos (p + 1) = (b : Int)) (hab : a ≤ b) (hbb : b ≤ 1048576) (hbl : b ≤ crd.length) (hpl : pos.length = n + 1) : ∀ (m i : Nat) (z : Bool), m + i = b - a →
    ∃ z', L41_3 (p : Int) ((a + i : Nat) : Int) k s pz (ints pos) cz (ints crd) z (((kidL k s pos crd p).take i).map fun q => kidT q.1 q.2) = some (.t (.list 2 z' ((kidL k s pos crd p).map fun q => kidT q.1 q.2)), e0) := by
  have ha1 := v.a1
  have hb2 : nth pos (p + 1) = (b : Int) := by rw [← hb]; unfold segA; rw [if_pos hk]
  have hl := kidL_len (crd := crd) p a b ha hb
  have hw : whole k = false := by rcases hk with rfl | rfl <;> rfl
  intro m
  induction m with
  | zero =>
    intro i z h
    have d : decide (((a + i : Nat) : Int) < (b : Int)) = false := decide_eq_false (by omega)
    rw [L41_3_eq, RL41_3, natWrap (by omega), needNat, Int.toNat_natCast, getI (by omega), hb2, d, cf, List.take_of_length_le (by omega)]
    exact ⟨z, rfl⟩
  | succ m ih =>
    intro i z h
    have d : decide (((a + i : Nat) : Int) < (b : Int)) = true := decide_eq_true (by omega)
    have hq := kidL_at (crd := crd) p a b ha hb (i := i) (by omega)
    have hat : atOf k crd (a : Int) ((a + i : Nat) : Int) = nth crd (a + i) := by
      unfold atOf
      rw [hw, if_neg (by simp), Int.toNat_natCast]
    rw [hat] at hq
    obtain ⟨z', ih⟩ := ih (i + 1) (z || true) (by omega)
    rw [← take_one hq] at ih
    have n1 : (decide (((((kidL k s pos crd p).take i).map fun q => kidT q.1 q.2).length + 1) * (16 + 1) ≤ 70368744177664) && decide (16 ≤ 1048576)) = true := by
      rw [decide_eq_true (by rw [List.length_map, List.length_take]; omega)]; rfl
    refine ⟨z', ?_⟩
    rw [L41_3_eq, RL41_3, natWrap (by omega), needNat, Int.toNat_natCast, getI (by omega), hb2, d, ct, needNat, Int.toNat_natCast, getI (by omega), needC_true n1, natWrap (by omega)]
    exact ih
theorem children41 (n : Nat) (v : Valid k s pos crd (n : Int)) (p : Nat) (hp : p < n) : ∃ z, vr 41 0 [.t (lvT k s pz pos cz crd), .t (.int .i64 (p : Int))] e0 = some (.t (.list 2 z ((kidL k s pos crd p).map fun q => kidT q.1 q.2)), e0) := by
  obtain ⟨a, b, ha, hb, hab, hbb, hcb, _⟩ := v.segNat n p hp
  have hl := kidL_len (crd := crd) p a b ha hb
  rw [eq41, R41, rwhole21, callK_some, asT_t, asB_bool, endB_nil]
  cases hw : whole k with
  | true =>
    rw [ct]
    obtain ⟨z, h1⟩ := L418_spec (pz := pz) (cz := cz) n v hw p hp a b ha hb hab hbb (ints pos) (ints crd) (b - a) 0 false (by omega)
    exact ⟨z, h1⟩
  | false =>
    rw [cf]
    have hbl := hcb hw
    rcases v.form with ⟨h, _⟩ | ⟨h, _⟩ | ⟨hk, f1, _⟩
    · exfalso; unfold whole at hw; rcases h with rfl | ⟨rfl, _⟩ <;> simp at hw
    · have e1 : (p : Int) = (a : Int) := by rw [← ha, h]; rfl
      have e2 : ((p + 1 : Nat) : Int) = (b : Int) := by rw [← hb, h]; rfl
      have hq := kidL_at (crd := crd) p a b ha hb (i := 0) (by omega)
      have hone : kidL k s pos crd p = [(nth crd p, (p : Int))] := by
        have hl1 : (kidL k s pos crd p).length = 1 := by omega
        match hk : kidL k s pos crd p, hl1 with
        | [x], _ =>
          rw [hk] at hq
          have hx : x = (atOf k crd (a : Int) ((a + 0 : Nat) : Int), ((a + 0 : Nat) : Int)) := Option.some.inj hq
          rw [hx]
          unfold atOf
          rw [hw, if_neg (by simp), Int.toNat_natCast]
          have : a + 0 = p := by omega
          rw [this]
      rw [decide_eq_true h, ct, needNat, Int.toNat_natCast, getI (by omega), hone]
      exact ⟨true, rfl⟩
    · have h3 : k ≠ 3 := by omega
      have hap : nth pos p = ((a + 0 : Nat) : Int) := by rw [Nat.add_zero, ← ha]; unfold segA; rw [if_pos hk]
      obtain ⟨z, h1⟩ := L413_spec (pz := pz) (cz := cz) n v hk p hp a b ha hb hab hbb hbl (by omega) (b - a) 0 false (by omega)
      rw [decide_eq_false h3, cf, needNat, Int.toNat_natCast, getI (by omega), hap]
      exact ⟨z, h1⟩
theorem children_pair (ahead p : Int) (hp : pos.length ≤ 70000) (hc : crd.length ≤ 70000) : ∃ (pl : List (Int × Int)) (z1 z2 : Bool) (e : Int), pl.length ≤ 1048576 ∧
    vr 15 0 [.t (lvT k s pz pos cz crd), .t (.int .i64 ahead), .t (.int .i64 p)] e0 = some (.tup [.t (.list 2 z1 (pl.map fun q => kidT q.1 q.2)), .t (.int .i64 e)], e0) ∧
    vr 24 0 [.t (lvT k s pz pos cz crd), .t (.int .i64 ahead), .t (.int .i64 p)] e0 = some (.tup [.t (.list 2 z2 (pl.map fun q => kidT q.1 q.2)), .t (.int .i64 e)], e0) := by
  by_cases he : checkE k s pos crd ahead = 0
  · by_cases h5 : p < 0 ∨ ahead ≤ p
    · refine ⟨[], false, false, 5, by simp, ?_, ?_⟩
      · rw [eq15, R15, ready30E _ _ hp hc, if_pos he, if_pos h5, callK_some, asT_t, asI_int, endB_nil, decide_eq_false (by omega : ¬ (5 : Int) = 0), bNF, ct]; rfl
      · rw [eq24, R24, check28 _ (by omega) (by omega), callK_some, asT_t, asI_int, endB_nil, decide_eq_true he, bNT, cf]
        by_cases h1 : p < 0
        · rw [decide_eq_true h1, ct]; rfl
        · rw [decide_eq_false h1, cf, decide_eq_true (by omega : ahead ≤ p), ct]; rfl
    · have v := (checkE_valid ahead hp hc).1 he
      obtain ⟨n, rfl⟩ : ∃ n : Nat, ahead = (n : Int) := ⟨ahead.toNat, by omega⟩
      obtain ⟨q, rfl⟩ : ∃ q : Nat, p = (q : Int) := ⟨p.toNat, by omega⟩
      obtain ⟨z1, c1⟩ := children15 (pz := pz) (cz := cz) n v (by omega) q (by omega)
      obtain ⟨z2, c2⟩ := children41 (pz := pz) (cz := cz) n v q (by omega)
      obtain ⟨a, b, ha, hb, hab, hbb, _⟩ := v.segNat n q (by omega)
      have hl := kidL_len (crd := crd) q a b ha hb
      rw [kids_kidL] at c1
      refine ⟨_, z1, z2, 0, by omega, c1, ?_⟩
      rw [eq24, R24, check28 _ (by omega) (by omega), callK_some, asT_t, asI_int, endB_nil, decide_eq_true he, bNT, cf, decide_eq_false (by omega : ¬ (q : Int) < 0), cf, decide_eq_false (by omega : ¬ (n : Int) ≤ (q : Int)), cf, c2, callK_some, asT_t, asL_list, endB_nil]
  · refine ⟨[], false, false, checkE k s pos crd ahead, by simp, ?_, ?_⟩
    · rw [eq15, R15, ready30E _ _ hp hc, if_neg he, callK_some, asT_t, asI_int, endB_nil, decide_eq_false he, bNF, ct]; rfl
    · rw [eq24, R24, check28 _ (by omega) (by omega), callK_some, asT_t, asI_int, endB_nil, decide_eq_false he, bNF, ct]; rfl
theorem L27_spec (z1 z2 : Bool) (pl : List (Int × Int)) (hb : pl.length ≤ 1048576) : ∀ (m i : Nat), m + i = pl.length → L27_4 z1 (pl.map fun q => kidT q.1 q.2) z2 (pl.map fun q => kidT q.1 q.2) (pl.length : Int) (i : Int) = some (.t (.bool true), e0)
  | 0, i, h => by
    have d : decide ((i : Int) < (pl.length : Int)) = false := decide_eq_false (by omega)
    rw [L27_4_eq, RL27_4, d, cf]
  | m + 1, i, h => by
    have d : decide ((i : Int) < (pl.length : Int)) = true := decide_eq_true (by omega)
    have hq : pl[i]? = some (pl[i]'(by omega)) := List.getElem?_eq_getElem (by omega)
    generalize pl[i]'(by omega) = q at hq
    have ih := L27_spec z1 z2 pl hb m (i + 1) (by omega)
    rw [L27_4_eq, RL27_4, d, ct, needNat, Int.toNat_natCast, getK hq]
    simp only [callK_some, asT_t, asI_int, asB_bool, asS_str, asL_list, asA_agg, consT_cons, endT_nil, asG_agg, asTup_tup, consV_cons, endV_nil, endB_nil, consB_cons, asArr_arr, asAv_av, asMp_map, asVar_var, isBuf_buf, isPtr_ptr, needC_t, ct, cf, bNT, bNF, bTA, bAT, bFA, bAF, bTO, bOT, bFO, bOF, dT, dF]
    rw [needNat, getK hq]
    simp only [callK_some, asT_t, asI_int, asB_bool, asS_str, asL_list, asA_agg, consT_cons, endT_nil, asG_agg, asTup_tup, consV_cons, endV_nil, endB_nil, consB_cons, asArr_arr, asAv_av, asMp_map, asVar_var, isBuf_buf, isPtr_ptr, needC_t, ct, cf, bNT, bNF, bTA, bAT, bFA, bAF, bTO, bOT, bFO, bOF, dT, dF]
    rw [natWrap (by omega)]
    exact ih
theorem same27 (z1 z2 : Bool) (pl : List (Int × Int)) (hb : pl.length ≤ 1048576) : vr 27 0 [.t (.list 2 z1 (pl.map fun q => kidT q.1 q.2)), .t (.list 2 z2 (pl.map fun q => kidT q.1 q.2))] e0 = some (.t (.bool true), e0) := by
  rw [eq27, R27, decide_eq_true rfl, bNT, cf, List.length_map]
  exact L27_spec z1 z2 pl hb pl.length 0 (by omega)
end
end Go.Proofs.Ytejfkiohnoiagaa.VM
end

section
namespace Go.Proofs.Ytejfkiohnoiagaa.VM
set_option linter.unusedSectionVars false
open Go AM
section
variable {k s : Int} {pz cz : Bool} {pos crd : List Int}
theorem L255_found (t : Int) (z : Bool) (pl : List (Int × Int)) (hb : pl.length ≤ 1048576) (w : Nat) (q : Int × Int) (hw : pl[w]? = some q) (ht : q.1 = t) : ∀ (d i : Nat), i + d = w → (∀ j x, i ≤ j → j < w → pl[j]? = some x → x.1 ≠ t) →
    L25_5 t z (pl.map fun q => kidT q.1 q.2) (pl.length : Int) (i : Int) = some (.tup [.t (.int .i64 q.2), .t (.bool true), .t (.int .i64 0)], e0)
  | 0, i, h, hn => by
    have hwl := (List.getElem?_eq_some_iff.1 hw).1
    have e : i = w := by omega
    subst e
    have d : decide ((i : Int) < (pl.length : Int)) = true := decide_eq_true (by omega)
    rw [L25_5_eq, RL25_5, d, ct, needNat, Int.toNat_natCast, getK hw]
    simp only [callK_some, asT_t, asI_int, asB_bool, asS_str, asL_list, asA_agg, consT_cons, endT_nil, asG_agg, asTup_tup, consV_cons, endV_nil, endB_nil, consB_cons, asArr_arr, asAv_av, asMp_map, asVar_var, isBuf_buf, isPtr_ptr, needC_t, ct, cf, bNT, bNF, bTA, bAT, bFA, bAF, bTO, bOT, bFO, bOF, dT, dF]
    rw [decide_eq_true ht, ct]
  | d + 1, i, h, hn => by
    have hwl := (List.getElem?_eq_some_iff.1 hw).1
    have dd : decide ((i : Int) < (pl.length : Int)) = true := decide_eq_true (by omega)
    have hx : pl[i]? = some (pl[i]'(by omega)) := List.getElem?_eq_getElem (by omega)
    generalize pl[i]'(by omega) = x at hx
    have ih := L255_found t z pl hb w q hw ht d (i + 1) (by omega) (fun j y h1 h2 h3 => hn j y (by omega) h2 h3)
    rw [L25_5_eq, RL25_5, dd, ct, needNat, Int.toNat_natCast, getK hx]
    simp only [callK_some, asT_t, asI_int, asB_bool, asS_str, asL_list, asA_agg, consT_cons, endT_nil, asG_agg, asTup_tup, consV_cons, endV_nil, endB_nil, consB_cons, asArr_arr, asAv_av, asMp_map, asVar_var, isBuf_buf, isPtr_ptr, needC_t, ct, cf, bNT, bNF, bTA, bAT, bFA, bAF, bTO, bOT, bFO, bOF, dT, dF]
    rw [decide_eq_false (hn i x (Nat.le_refl _) (by omega) hx), cf, natWrap (by omega)]
    exact ih
theorem L255_none (t : Int) (z : Bool) (pl : List (Int × Int)) (hb : pl.length ≤ 1048576) (hn : ∀ (j : Nat) x, pl[j]? = some x → x.1 ≠ t) : ∀ (m i : Nat), m + i = pl.length →
    L25_5 t z (pl.map fun q => kidT q.1 q.2) (pl.length : Int) (i : Int) = some (.tup [.t (.int .i64 0), .t (.bool false), .t (.int .i64 0)], e0)
  | 0, i, h => by
    have d : decide ((i : Int) < (pl.length : Int)) = false := decide_eq_false (by omega)
    rw [L25_5_eq, RL25_5, d, cf]
  | m + 1, i, h => by
    have dd : decide ((i : Int) < (pl.length : Int)) = true := decide_eq_true (by omega)
    have hx : pl[i]? = some (pl[i]'(by omega)) := List.getElem?_eq_getElem (by omega)
    generalize pl[i]'(by omega) = x at hx
    have ih := L255_none t z pl hb hn m (i + 1) (by omega)
    rw [L25_5_eq, RL25_5, dd, ct, needNat, Int.toNat_natCast, getK hx]
    simp only [callK_some, asT_t, asI_int, asB_bool, asS_str, asL_list, asA_agg, consT_cons, endT_nil, asG_agg, asTup_tup, consV_cons, endV_nil, endB_nil, consB_cons, asArr_arr, asAv_av, asMp_map, asVar_var, isBuf_buf, isPtr_ptr, needC_t, ct, cf, bNT, bNF, bTA, bAT, bFA, bAF, bTO, bOT, bFO, bOF, dT, dF]
    rw [decide_eq_false (hn i x hx), cf, natWrap (by omega)]
    exact ih
theorem find_pair (ahead p t : Int) (hp : pos.length ≤ 70000) (hc : crd.length ≤ 70000) : ∃ (x : Int) (b : Bool) (e : Int), vr 20 0 [.t (lvT k s pz pos cz crd), .t (.int .i64 ahead), .t (.int .i64 p), .t (.int .i64 t)] e0 = some (.tup [.t (.int .i64 x), .t (.bool b), .t (.int .i64 e)], e0) ∧
    vr 25 0 [.t (lvT k s pz pos cz crd), .t (.int .i64 ahead), .t (.int .i64 p), .t (.int .i64 t)] e0 = some (.tup [.t (.int .i64 x), .t (.bool b), .t (.int .i64 e)], e0) := by
  have bad : ∀ e : Int, e ≠ 0 → vr 30 0 [.t (lvT k s pz pos cz crd), .t (.int .i64 ahead), .t (.int .i64 p)] e0 = some (.t (.int .i64 e), e0) → (∃ z, vr 24 0 [.t (lvT k s pz pos cz crd), .t (.int .i64 ahead), .t (.int .i64 p)] e0 = some (.tup [.t (.list 2 z []), .t (.int .i64 e)], e0)) →
      ∃ (x : Int) (b : Bool) (e : Int), vr 20 0 [.t (lvT k s pz pos cz crd), .t (.int .i64 ahead), .t (.int .i64 p), .t (.int .i64 t)] e0 = some (.tup [.t (.int .i64 x), .t (.bool b), .t (.int .i64 e)], e0) ∧
      vr 25 0 [.t (lvT k s pz pos cz crd), .t (.int .i64 ahead), .t (.int .i64 p), .t (.int .i64 t)] e0 = some (.tup [.t (.int .i64 x), .t (.bool b), .t (.int .i64 e)], e0) := by
    rintro e he h1 ⟨z, h2⟩
    refine ⟨0, false, e, ?_, ?_⟩
    · rw [eq20, R20, h1, callK_some, asT_t, asI_int, endB_nil, decide_eq_false he, bNF, ct]
    · rw [eq25, R25, h2, callK_some]
      simp only [callK_some, asT_t, asI_int, asB_bool, asS_str, asL_list, asA_agg, consT_cons, endT_nil, asG_agg, asTup_tup, consV_cons, endV_nil, endB_nil, consB_cons, asArr_arr, asAv_av, asMp_map, asVar_var, isBuf_buf, isPtr_ptr, needC_t, ct, cf, bNT, bNF, bTA, bAT, bFA, bAF, bTO, bOT, bFO, bOF, dT, dF]
      rw [decide_eq_false he, bNF, ct]
  have hr := ready30E (k := k) (s := s) (pz := pz) (cz := cz) (pos := pos) (crd := crd) ahead p hp hc
  by_cases he : checkE k s pos crd ahead = 0
  · rw [if_pos he] at hr
    by_cases h5 : p < 0 ∨ ahead ≤ p
    · rw [if_pos h5] at hr
      refine bad 5 (by omega) hr ⟨false, ?_⟩
      rw [eq24, R24, check28 _ (by omega) (by omega), callK_some, asT_t, asI_int, endB_nil, decide_eq_true he, bNT, cf]
      by_cases h1 : p < 0
      · rw [decide_eq_true h1, ct]
      · rw [decide_eq_false h1, cf, decide_eq_true (by omega : ahead ≤ p), ct]
    · have v := (checkE_valid ahead hp hc).1 he
      obtain ⟨n, rfl⟩ : ∃ n : Nat, ahead = (n : Int) := ⟨ahead.toNat, by omega⟩
      obtain ⟨q, rfl⟩ : ∃ q : Nat, p = (q : Int) := ⟨p.toNat, by omega⟩
      obtain ⟨z2, c2⟩ := children41 (pz := pz) (cz := cz) n v q (by omega)
      obtain ⟨a, b, ha, hb, hab, hbb, hcb, _⟩ := v.segNat n q (by omega)
      have hl := kidL_len (crd := crd) q a b ha hb
      have hch : vr 24 0 [.t (lvT k s pz pos cz crd), .t (.int .i64 (n : Int)), .t (.int .i64 (q : Int))] e0 = some (.tup [.t (.list 2 z2 ((kidL k s pos crd q).map fun q => kidT q.1 q.2)), .t (.int .i64 0)], e0) := by
        rw [eq24, R24, check28 _ (by omega) (by omega), callK_some, asT_t, asI_int, endB_nil, decide_eq_true he, bNT, cf, decide_eq_false (by omega : ¬ (q : Int) < 0), cf, decide_eq_false (by omega : ¬ (n : Int) ≤ (q : Int)), cf, c2, callK_some, asT_t, asL_list, endB_nil]
      have idx : ∀ (j : Nat) (x : Int × Int), (kidL k s pos crd q)[j]? = some x → j < b - a ∧ x.1 = atOf k crd (a : Int) ((a + j : Nat) : Int) := by
        intro j x hx
        have hj := (List.getElem?_eq_some_iff.1 hx).1
        have := kidL_at (crd := crd) q a b ha hb (i := j) (by omega)
        rw [hx] at this
        rw [Option.some.inj this]
        exact ⟨by omega, rfl⟩
      rcases find20 (pz := pz) (cz := cz) n v (by omega) q (by omega) t a b ha hb hab hbb hcb with ⟨m, f1, f2, f3, f4, f5⟩ | ⟨f1, f2⟩
      · refine ⟨(m : Int), true, 0, f1, ?_⟩
        have hq := kidL_at (crd := crd) q a b ha hb (i := m - a) (by omega)
        have e1 : a + (m - a) = m := by omega
        rw [e1] at hq
        have := L255_found t z2 (kidL k s pos crd q) (by omega) (m - a) _ hq f4 (m - a) 0 (by omega) (fun j x _ h2 h3 h4 => by
          obtain ⟨_, i2⟩ := idx j x h3
          have := f5 (a + j) (by omega) (by omega)
          omega)
        rw [eq25, R25, hch, callK_some]
        simp only [callK_some, asT_t, asI_int, asB_bool, asS_str, asL_list, asA_agg, consT_cons, endT_nil, asG_agg, asTup_tup, consV_cons, endV_nil, endB_nil, consB_cons, asArr_arr, asAv_av, asMp_map, asVar_var, isBuf_buf, isPtr_ptr, needC_t, ct, cf, bNT, bNF, bTA, bAT, bFA, bAF, bTO, bOT, bFO, bOF, dT, dF]
        rw [List.length_map]
        exact this
      · refine ⟨0, false, 0, f1, ?_⟩
        have := L255_none t z2 (kidL k s pos crd q) (by omega) (fun j x h3 h4 => by
          obtain ⟨i1, i2⟩ := idx j x h3
          exact f2 (a + j) (by omega) (by omega) (by rw [← i2]; exact h4)) (kidL k s pos crd q).length 0 (by omega)
        rw [eq25, R25, hch, callK_some]
        simp only [callK_some, asT_t, asI_int, asB_bool, asS_str, asL_list, asA_agg, consT_cons, endT_nil, asG_agg, asTup_tup, consV_cons, endV_nil, endB_nil, consB_cons, asArr_arr, asAv_av, asMp_map, asVar_var, isBuf_buf, isPtr_ptr, needC_t, ct, cf, bNT, bNF, bTA, bAT, bFA, bAF, bTO, bOT, bFO, bOF, dT, dF]
        rw [List.length_map]
        exact this
  · rw [if_neg he] at hr
    refine bad _ he hr ⟨false, ?_⟩
    rw [eq24, R24, check28 _ (by omega) (by omega), callK_some, asT_t, asI_int, endB_nil, decide_eq_false he, bNF, ct]
theorem owner (f : Nat → Int) (m : Int) (h0 : f 0 ≤ m) : ∀ n : Nat, m < f n → ∃ p, p < n ∧ f p ≤ m ∧ m < f (p + 1)
  | 0, h => by omega
  | n + 1, h => by
    by_cases hm : m < f n
    · obtain ⟨p, h1, h2, h3⟩ := owner f m h0 n hm
      exact ⟨p, by omega, h2, h3⟩
    · exact ⟨n, by omega, by omega, h⟩
theorem L2611_spec (n : Nat) (v : Valid k s pos crd (n : Int)) (hk : k = 1 ∨ k = 2) (p : Nat) (hp : p < n) (m a b : Nat) (ha : segA k s pos p = (a : Int)) (hb : segA k s pos (p + 1) = (b : Int)) (h1 : a ≤ m) (h2 : m < b) (hbl : b ≤ crd.length) (hpl : pos.length = n + 1) : ∀ (d q : Nat), q + d = p →
    L26_11 (m : Int) (q : Int) k s pz (ints pos) cz (ints crd) = some (.tup [.t (.int .i64 (p : Int)), .t (.int .i64 (nth crd m)), .t (.int .i64 0)], e0) := by
  have hn1 := v.a1
  have sg : ∀ q, nth pos q = segA k s pos q := fun q => by unfold segA; rw [if_pos hk]
  intro d
  induction d with
  | zero =>
    intro q h
    have e : q = p := by omega
    subst e
    rw [L26_11_eq, RL26_11, natWrap (by omega), needNat, Int.toNat_natCast, getI (by omega), sg, hb, decide_eq_false (by omega : ¬ (b : Int) ≤ (m : Int)), cf, needNat, Int.toNat_natCast, getI (by omega)]
  | succ d ih =>
    intro q h
    have hm := v.mono n p (q + 1) (by omega) (by omega)
    rw [ha] at hm
    rw [L26_11_eq, RL26_11, natWrap (by omega), needNat, Int.toNat_natCast, getI (by omega), sg, decide_eq_true (by omega : segA k s pos (q + 1) ≤ (m : Int)), ct]
    exact ih (q + 1) (by omega)
theorem parent_pair (ahead m : Int) (hp : pos.length ≤ 70000) (hc : crd.length ≤ 70000) : ∃ x y e : Int, vr 22 0 [.t (lvT k s pz pos cz crd), .t (.int .i64 ahead), .t (.int .i64 m)] e0 = some (.tup [.t (.int .i64 x), .t (.int .i64 y), .t (.int .i64 e)], e0) ∧
    vr 26 0 [.t (lvT k s pz pos cz crd), .t (.int .i64 ahead), .t (.int .i64 m)] e0 = some (.tup [.t (.int .i64 x), .t (.int .i64 y), .t (.int .i64 e)], e0) := by
  by_cases he : checkE k s pos crd ahead = 0
  · have v := (checkE_valid ahead hp hc).1 he
    have h0 := v.a0
    have h1 := v.a1
    obtain ⟨n, rfl⟩ : ∃ n : Nat, ahead = (n : Int) := ⟨ahead.toNat, by omega⟩
    have hbel := v.below
    by_cases hm0 : m < 0
    · refine ⟨0, 0, 5, ?_, ?_⟩
      · rw [eq22, R22, check19E _ hp hc, callK_some, asT_t, asI_int, endB_nil, decide_eq_true he, bNT, cf, decide_eq_true hm0, ct]
      · rw [eq26, R26, check28 _ (by omega) (by omega), callK_some, asT_t, asI_int, endB_nil, decide_eq_true he, bNT, cf, decide_eq_true hm0, ct]
    by_cases hmb : belowN k s crd (n : Int) ≤ m
    · refine ⟨0, 0, 5, ?_, ?_⟩
      · rw [eq22, R22, check19E _ hp hc, callK_some, asT_t, asI_int, endB_nil, decide_eq_true he, bNT, cf, decide_eq_false hm0, cf, below29 n (by omega) v.s0 v.s1, callK_some, asT_t, asI_int, endB_nil, decide_eq_true hmb, ct]
      · rw [eq26, R26, check28 _ (by omega) (by omega), callK_some, asT_t, asI_int, endB_nil, decide_eq_true he, bNT, cf, decide_eq_false hm0, cf, many40 n (by omega) v.s0 v.s1, callK_some, asT_t, asI_int, endB_nil, decide_eq_true hmb, ct]
    obtain ⟨w, rfl⟩ : ∃ w : Nat, m = (w : Int) := ⟨m.toNat, by omega⟩
    obtain ⟨p, hpn, o1, o2⟩ := owner (segA k s pos) (w : Int) (by rw [(v.seg n).1]; omega) n (by rw [(v.seg n).2.1]; omega)
    obtain ⟨a, b, ha, hb, hab, hbb, hcb, _⟩ := v.segNat n p hpn
    rw [ha] at o1
    rw [hb] at o2
    refine ⟨_, _, 0, parent22 n v (by omega) p hpn w a b ha hb hbb hcb (by omega) (by omega), ?_⟩
    rw [eq26, R26, check28 _ (by omega) (by omega), callK_some, asT_t, asI_int, endB_nil, decide_eq_true he, bNT, cf, decide_eq_false hm0, cf, many40 n (by omega) v.s0 v.s1, callK_some, asT_t, asI_int, endB_nil, decide_eq_false hmb, cf, rwhole21, callK_some, asT_t, asB_bool, endB_nil]
    unfold atOf
    cases hw : whole k with
    | true =>
      rw [segA_whole hw] at ha hb
      have hs : s ≠ 0 := by
        intro h; subst h; omega
      have hs0 := v.s0
      have hdiv : (w : Int) / s = (p : Int) := by
        have e1 : (w : Int) = (p : Int) * s + ((w : Int) - (p : Int) * s) := by omega
        rw [Int.natCast_add, Int.add_mul] at hb
        have hr0 : 0 ≤ (w : Int) - (p : Int) * s := by omega
        have hr1 : (w : Int) - (p : Int) * s < s := by omega
        rw [e1, Int.add_comm, Int.add_mul_ediv_right _ _ hs, Int.ediv_eq_zero_of_lt hr0 hr1]
        omega
      have hmod : (w : Int) % s = (w : Int) - (a : Int) := by
        have := Int.emod_add_mul_ediv (w : Int) s
        rw [hdiv, Int.mul_comm] at this
        omega
      have e1 : Int.tdiv (w : Int) s = (p : Int) := by rw [Int.tdiv_eq_ediv_of_nonneg (by omega), hdiv]
      have e2 : Int.tmod (w : Int) s = (w : Int) - (a : Int) := by rw [Int.tmod_eq_emod_of_nonneg (by omega), hmod]
      rw [ct, decide_eq_false hs, bNF, needC_t, needC_t, e1, e2, if_pos rfl, wrap64 (by omega) (by omega)]
    | false =>
      have hbl := hcb hw
      rw [cf]
      simp only [Bool.false_eq_true, if_false, Int.toNat_natCast]
      rcases v.form with ⟨h, _⟩ | ⟨h, _⟩ | ⟨hk, f1, _⟩
      · exfalso; unfold whole at hw; rcases h with rfl | ⟨rfl, _⟩ <;> simp at hw
      · have e1 : (p : Int) = (a : Int) := by rw [← ha, h]; rfl
        have e2 : ((p + 1 : Nat) : Int) = (b : Int) := by rw [← hb, h]; rfl
        rw [decide_eq_true h, ct, needNat, getI (by omega)]
        have : w = p := by omega
        rw [this]
      · have h3 : k ≠ 3 := by omega
        rw [decide_eq_false h3, cf]
        exact L2611_spec n v hk p hpn w a b ha hb (by omega) (by omega) hbl (by omega) p 0 (by omega)
  · refine ⟨0, 0, checkE k s pos crd ahead, ?_, ?_⟩
    · rw [eq22, R22, check19E _ hp hc, callK_some, asT_t, asI_int, endB_nil, decide_eq_false he, bNF, ct]
    · rw [eq26, R26, check28 _ (by omega) (by omega), callK_some, asT_t, asI_int, endB_nil, decide_eq_false he, bNF, ct]
theorem same_pair {k2 s2 : Int} {pz2 cz2 : Bool} {pos2 crd2 : List Int} (hp : pos.length ≤ 70000) (hc : crd.length ≤ 70000) : ∃ b, vr 17 0 [.t (lvT k s pz pos cz crd), .t (lvT k2 s2 pz2 pos2 cz2 crd2)] e0 = some (.t (.bool b), e0) ∧
    vr 12 0 [.t (lvT k s pz pos cz crd), .t (lvT k2 s2 pz2 pos2 cz2 crd2)] e0 = some (.t (.bool b), e0) := by
  rw [eq17, R17, eq12, R12, equal32 _ _ _ _ (by omega), equal32 _ _ _ _ (by omega), equal16 _ _ _ _ (by omega), equal16 _ _ _ _ (by omega)]
  cases decide (k = k2) <;> cases decide (s = s2) <;> cases decide (pos = pos2) <;> cases decide (crd = crd2) <;> exact ⟨_, rfl, rfl⟩
end
theorem tells_spec (x0 : T) (f0 : FitT lvTy true x0) (x1 : T) (f1 : FitT lvTy true x1) (a2 a3 a4 a5 : Int) : ∃ st, vr 8 0 [.t x0, .t x1, .t (.int .i64 a2), .t (.int .i64 a3), .t (.int .i64 a4), .t (.int .i64 a5)] ⟨[], []⟩ = some (.t (.bool true), st) := by
  obtain ⟨k, s, pz, pos, cz, crd, rfl⟩ := level_of f0
  obtain ⟨k2, s2, pz2, pos2, cz2, crd2, rfl⟩ := level_of f1
  refine ⟨e0, ?_⟩
  rw [eq8, R8, live9, callK_some, asT_t, asB_bool, endB_nil]
  obtain ⟨b, h1, h2⟩ := few18 (k := k) (s := s) (pz := pz) (cz := cz) (pos := pos) (crd := crd) a2
  rw [h1, callK_some, asT_t, asB_bool, endB_nil]
  cases b with
  | false => rw [bNF, ct]
  | true =>
    obtain ⟨hp, hc⟩ := h2 rfl
    obtain ⟨b', h3, _⟩ := few18 (k := k2) (s := s2) (pz := pz2) (cz := cz2) (pos := pos2) (crd := crd2) 0
    rw [bNT, cf, h3, callK_some, asT_t, asB_bool, endB_nil]
    cases b' with
    | false => rw [bNF, ct]
    | true =>
      obtain ⟨x1, y1, p1, q1⟩ := below_pair (k := k) (s := s) (pz := pz) (cz := cz) (pos := pos) (crd := crd) a2 hp hc
      obtain ⟨pl, z1, z2, y2, hpl, p2, q2⟩ := children_pair (k := k) (s := s) (pz := pz) (cz := cz) (pos := pos) (crd := crd) a2 a3 hp hc
      obtain ⟨x3, b3, y3, p3, q3⟩ := find_pair (k := k) (s := s) (pz := pz) (cz := cz) (pos := pos) (crd := crd) a2 a3 a4 hp hc
      obtain ⟨x4, w4, y4, p4, q4⟩ := parent_pair (k := k) (s := s) (pz := pz) (cz := cz) (pos := pos) (crd := crd) a2 a5 hp hc
      obtain ⟨b5, p5, q5⟩ := same_pair (k := k) (s := s) (pz := pz) (cz := cz) (pos := pos) (crd := crd) (k2 := k2) (s2 := s2) (pz2 := pz2) (cz2 := cz2) (pos2 := pos2) (crd2 := crd2) hp hc
      rw [bNT, cf, p1, callK_some]
      simp only [callK_some, asT_t, asI_int, asB_bool, asS_str, asL_list, asA_agg, consT_cons, endT_nil, asG_agg, asTup_tup, consV_cons, endV_nil, endB_nil, consB_cons, asArr_arr, asAv_av, asMp_map, asVar_var, isBuf_buf, isPtr_ptr, needC_t, ct, cf, bNT, bNF, bTA, bAT, bFA, bAF, bTO, bOT, bFO, bOF, dT, dF]
      rw [q1, callK_some]
      simp only [callK_some, asT_t, asI_int, asB_bool, asS_str, asL_list, asA_agg, consT_cons, endT_nil, asG_agg, asTup_tup, consV_cons, endV_nil, endB_nil, consB_cons, asArr_arr, asAv_av, asMp_map, asVar_var, isBuf_buf, isPtr_ptr, needC_t, ct, cf, bNT, bNF, bTA, bAT, bFA, bAF, bTO, bOT, bFO, bOF, dT, dF]
      rw [p2, callK_some]
      simp only [callK_some, asT_t, asI_int, asB_bool, asS_str, asL_list, asA_agg, consT_cons, endT_nil, asG_agg, asTup_tup, consV_cons, endV_nil, endB_nil, consB_cons, asArr_arr, asAv_av, asMp_map, asVar_var, isBuf_buf, isPtr_ptr, needC_t, ct, cf, bNT, bNF, bTA, bAT, bFA, bAF, bTO, bOT, bFO, bOF, dT, dF]
      rw [q2, callK_some]
      simp only [callK_some, asT_t, asI_int, asB_bool, asS_str, asL_list, asA_agg, consT_cons, endT_nil, asG_agg, asTup_tup, consV_cons, endV_nil, endB_nil, consB_cons, asArr_arr, asAv_av, asMp_map, asVar_var, isBuf_buf, isPtr_ptr, needC_t, ct, cf, bNT, bNF, bTA, bAT, bFA, bAF, bTO, bOT, bFO, bOF, dT, dF]
      rw [p3, callK_some]
      simp only [callK_some, asT_t, asI_int, asB_bool, asS_str, asL_list, asA_agg, consT_cons, endT_nil, asG_agg, asTup_tup, consV_cons, endV_nil, endB_nil, consB_cons, asArr_arr, asAv_av, asMp_map, asVar_var, isBuf_buf, isPtr_ptr, needC_t, ct, cf, bNT, bNF, bTA, bAT, bFA, bAF, bTO, bOT, bFO, bOF, dT, dF]
      rw [q3, callK_some]
      simp only [callK_some, asT_t, asI_int, asB_bool, asS_str, asL_list, asA_agg, consT_cons, endT_nil, asG_agg, asTup_tup, consV_cons, endV_nil, endB_nil, consB_cons, asArr_arr, asAv_av, asMp_map, asVar_var, isBuf_buf, isPtr_ptr, needC_t, ct, cf, bNT, bNF, bTA, bAT, bFA, bAF, bTO, bOT, bFO, bOF, dT, dF]
      rw [p4, callK_some]
      simp only [callK_some, asT_t, asI_int, asB_bool, asS_str, asL_list, asA_agg, consT_cons, endT_nil, asG_agg, asTup_tup, consV_cons, endV_nil, endB_nil, consB_cons, asArr_arr, asAv_av, asMp_map, asVar_var, isBuf_buf, isPtr_ptr, needC_t, ct, cf, bNT, bNF, bTA, bAT, bFA, bAF, bTO, bOT, bFO, bOF, dT, dF]
      rw [q4, callK_some]
      simp only [callK_some, asT_t, asI_int, asB_bool, asS_str, asL_list, asA_agg, consT_cons, endT_nil, asG_agg, asTup_tup, consV_cons, endV_nil, endB_nil, consB_cons, asArr_arr, asAv_av, asMp_map, asVar_var, isBuf_buf, isPtr_ptr, needC_t, ct, cf, bNT, bNF, bTA, bAT, bFA, bAF, bTO, bOT, bFO, bOF, dT, dF, decide_true]
      rw [same27 z1 z2 pl hpl, callK_some]
      simp only [callK_some, asT_t, asI_int, asB_bool, asS_str, asL_list, asA_agg, consT_cons, endT_nil, asG_agg, asTup_tup, consV_cons, endV_nil, endB_nil, consB_cons, asArr_arr, asAv_av, asMp_map, asVar_var, isBuf_buf, isPtr_ptr, needC_t, ct, cf, bNT, bNF, bTA, bAT, bFA, bAF, bTO, bOT, bFO, bOF, dT, dF, decide_true, beq_self_eq_true]
      rw [check19E a2 hp hc, callK_some]
      simp only [callK_some, asT_t, asI_int, asB_bool, asS_str, asL_list, asA_agg, consT_cons, endT_nil, asG_agg, asTup_tup, consV_cons, endV_nil, endB_nil, consB_cons, asArr_arr, asAv_av, asMp_map, asVar_var, isBuf_buf, isPtr_ptr, needC_t, ct, cf, bNT, bNF, bTA, bAT, bFA, bAF, bTO, bOT, bFO, bOF, dT, dF]
      rw [check28 a2 (by omega) (by omega), callK_some]
      simp only [callK_some, asT_t, asI_int, asB_bool, asS_str, asL_list, asA_agg, consT_cons, endT_nil, asG_agg, asTup_tup, consV_cons, endV_nil, endB_nil, consB_cons, asArr_arr, asAv_av, asMp_map, asVar_var, isBuf_buf, isPtr_ptr, needC_t, ct, cf, bNT, bNF, bTA, bAT, bFA, bAF, bTO, bOT, bFO, bOF, dT, dF, decide_true]
      rw [whole14, callK_some]
      simp only [callK_some, asT_t, asI_int, asB_bool, asS_str, asL_list, asA_agg, consT_cons, endT_nil, asG_agg, asTup_tup, consV_cons, endV_nil, endB_nil, consB_cons, asArr_arr, asAv_av, asMp_map, asVar_var, isBuf_buf, isPtr_ptr, needC_t, ct, cf, bNT, bNF, bTA, bAT, bFA, bAF, bTO, bOT, bFO, bOF, dT, dF]
      rw [rwhole21, callK_some]
      simp only [callK_some, asT_t, asI_int, asB_bool, asS_str, asL_list, asA_agg, consT_cons, endT_nil, asG_agg, asTup_tup, consV_cons, endV_nil, endB_nil, consB_cons, asArr_arr, asAv_av, asMp_map, asVar_var, isBuf_buf, isPtr_ptr, needC_t, ct, cf, bNT, bNF, bTA, bAT, bFA, bAF, bTO, bOT, bFO, bOF, dT, dF, beq_self_eq_true]
      rw [p5, callK_some]
      simp only [callK_some, asT_t, asI_int, asB_bool, asS_str, asL_list, asA_agg, consT_cons, endT_nil, asG_agg, asTup_tup, consV_cons, endV_nil, endB_nil, consB_cons, asArr_arr, asAv_av, asMp_map, asVar_var, isBuf_buf, isPtr_ptr, needC_t, ct, cf, bNT, bNF, bTA, bAT, bFA, bAF, bTO, bOT, bFO, bOF, dT, dF]
      rw [q5, callK_some]
      simp only [callK_some, asT_t, asI_int, asB_bool, asS_str, asL_list, asA_agg, consT_cons, endT_nil, asG_agg, asTup_tup, consV_cons, endV_nil, endB_nil, consB_cons, asArr_arr, asAv_av, asMp_map, asVar_var, isBuf_buf, isPtr_ptr, needC_t, ct, cf, bNT, bNF, bTA, bAT, bFA, bAF, bTO, bOT, bFO, bOF, dT, dF, beq_self_eq_true]
end Go.Proofs.Ytejfkiohnoiagaa.VM
end
