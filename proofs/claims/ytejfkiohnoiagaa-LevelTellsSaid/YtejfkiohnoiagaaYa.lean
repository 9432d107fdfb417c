/- Merged: Ya1 Ya2 Ya3 Ya4 Ya5. Conditions: none. -/
import Derived.Test.YtejfkiohnoiagaaOv
import Derived.Laws.Bits64
set_option linter.all false
section
namespace Go.Proofs.Ytejfkiohnoiagaa.VM
set_option linter.unusedSectionVars false
open Go AM
abbrev e0 : St := ⟨[], []⟩
abbrev iT (n : Int) : T := .int .i64 n
abbrev ints (l : List Int) : List T := l.map iT
/-- A list's element. -/
def nth (l : List Int) (i : Nat) : Int := l.getD i 0
theorem ints_len (l : List Int) : (ints l).length = l.length := by simp
theorem nth_at {l : List Int} {i : Nat} (h : i < l.length) : l[i]? = some (nth l i) := by
  unfold nth
  rw [List.getD_eq_getElem?_getD, List.getElem?_eq_getElem h]; rfl
theorem ints_at {l : List Int} {i : Nat} (h : i < l.length) : (ints l)[i]? = some (.int .i64 (nth l i)) := by
  rw [List.getElem?_map, nth_at h]; rfl
theorem getI {R : Type} {l : List Int} {i : Nat} (h : i < l.length) (K : Int → Option R) : getT (ints l) i (fun e => asI .i64 e K) = K (nth l i) := by
  rw [getT_at (ints_at h), asI_int]
theorem needNat {R : Type} (i : Nat) (K : Unit → Option R) : needC (decide ((0 : Int) ≤ (i : Int))) K = K () := by
  rw [decide_eq_true (by omega), needC_t]
theorem need00 {R : Type} (K : Unit → Option R) : needC (decide (0 ≤ 0)) K = K () := needC_true rfl K
theorem nth_mem {l : List Int} {i : Nat} (h : i < l.length) : nth l i ∈ l := List.mem_of_getElem? (nth_at h)
theorem nth_take {l : List Int} {i n : Nat} (h : i < n) (hn : i < l.length) : nth (l.take n) i = nth l i := by
  have h1 : i < (l.take n).length := by rw [List.length_take]; omega
  have := nth_at h1
  rw [List.getElem?_take, if_pos h, nth_at hn] at this
  exact (Option.some.inj this).symm
theorem nth_drop {l : List Int} {i n : Nat} (h : n + i < l.length) : nth (l.drop n) i = nth l (n + i) := by
  have h1 : i < (l.drop n).length := by rw [List.length_drop]; omega
  have := nth_at h1
  rw [List.getElem?_drop, nth_at h] at this
  exact (Option.some.inj this).symm
theorem nth_ext {a b : List Int} (hl : a.length = b.length) (h : ∀ i, i < a.length → nth a i = nth b i) : a = b := by
  apply List.ext_getElem? 
  intro i
  by_cases hi : i < a.length
  · rw [nth_at hi, nth_at (by omega), h i hi]
  · rw [List.getElem?_eq_none (by omega), List.getElem?_eq_none (by omega)]
theorem cutI {R : Type} {l : List Int} {a b : Nat} (h : a ≤ b) (hb : b ≤ l.length) (K : List T → Option R) : cutL (ints l) (some (a : Int)) (some (b : Int)) K = K (ints ((l.take b).drop a)) := by
  unfold cutL
  simp only [Option.getD_some]
  rw [needC_true (by rw [decide_eq_true (by omega), decide_eq_true (by omega), decide_eq_true (by rw [ints_len]; omega)]; rfl), Int.toNat_natCast, Int.toNat_natCast, ← List.map_take, ← List.map_drop]
theorem cutI0 {R : Type} {l : List Int} {b : Nat} (hb : b ≤ l.length) (K : List T → Option R) : cutL (ints l) none (some (b : Int)) K = K (ints (l.take b)) := by
  unfold cutL
  simp only [Option.getD_some, Option.getD_none]
  rw [needC_true (by rw [decide_eq_true (by omega), decide_eq_true (by omega), decide_eq_true (by rw [ints_len]; omega)]; rfl), Int.toNat_natCast, ← List.map_take]
  rfl
theorem natWrap {n : Nat} (h : n < 9223372036854775807) : IntKind.i64.wrap ((n : Int) + 1) = ((n + 1 : Nat) : Int) := by rw [wrap64 (by omega) (by omega)]; simp
/-- A level, as a tree. -/
abbrev lvT (k s : Int) (pz : Bool) (pos : List Int) (cz : Bool) (crd : List Int) : T := .agg [.int .i64 k, .int .i64 s, .list 1 pz (ints pos), .list 1 cz (ints crd)]
def whole (k : Int) : Bool := decide (k = 0) || decide (k = 4)
section
variable {k s : Int} {pz cz : Bool} {pos crd : List Int}
theorem whole14 : vr 14 0 [.t (lvT k s pz pos cz crd)] e0 = some (.t (.bool (whole k)), e0) := by
  rw [eq14, R14]
  unfold whole
  cases decide (k = 0) <;> rfl
theorem nan46 (a : Int) : vr 46 0 [.t (.int .i64 a)] e0 = some (.t (.bool false), e0) := by
  rw [eq46, R46, decide_eq_true rfl, bNT]
theorem nan47 (a : Int) : vr 47 0 [.t (.int .i64 a)] e0 = some (.t (.bool false), e0) := by
  rw [eq47, R47, decide_eq_true rfl, bNT]
theorem less45 (a b : Int) : vr 45 0 [.t (.int .i64 a), .t (.int .i64 b)] e0 = some (.t (.bool (decide (a < b))), e0) := by
  rw [eq45, R45, nan47, callK_some, asT_t, asB_bool, endB_nil, cf]
def Sorted (l : List Int) : Prop := ∀ j, 1 ≤ j → j < l.length → nth l (j - 1) ≤ nth l j
theorem L43_spec (z : Bool) (l : List Int) (hb : l.length ≤ 9223372036854775807) : ∀ i : Nat, i < l.length → ∃ b, L43_2 z (ints l) (i : Int) = some (.t (.bool b), e0) ∧ (b = true ↔ ∀ j, 1 ≤ j → j ≤ i → nth l (j - 1) ≤ nth l j)
  | 0, hi => by
    rw [L43_2_eq, RL43_2]
    exact ⟨true, rfl, by constructor <;> intro h; · intro j h1 h2; omega
                         · rfl⟩
  | i + 1, hi => by
    obtain ⟨b, h1, h2⟩ := L43_spec z l hb i (by omega)
    have hw : IntKind.i64.wrap (((i + 1 : Nat) : Int) - 1) = (i : Int) := by rw [wrap64 (by omega) (by omega)]; omega
    have d1 : decide ((0 : Int) < ((i + 1 : Nat) : Int)) = true := decide_eq_true (by omega)
    rw [L43_2_eq, RL43_2, d1, ct, needNat, Int.toNat_natCast, getI hi, hw, needNat, Int.toNat_natCast, getI (by omega), less45, callK_some, asT_t, asB_bool, endB_nil]
    by_cases hlt : nth l (i + 1) < nth l i
    · rw [decide_eq_true hlt, ct]
      refine ⟨false, rfl, by constructor <;> intro h; · cases h
                             · have := h (i + 1) (by omega) (by omega)
                               simp only [Nat.add_sub_cancel] at this
                               omega⟩
    · rw [decide_eq_false hlt, cf]
      refine ⟨b, h1, h2.trans ?_⟩
      constructor
      · intro h j h3 h4
        by_cases hj : j = i + 1
        · subst hj; simp only [Nat.add_sub_cancel]; omega
        · exact h j h3 (by omega)
      · intro h j h3 h4
        exact h j h3 (by omega)
theorem sorted43 (z : Bool) (l : List Int) (hb : l.length ≤ 9223372036854775807) : ∃ b, vr 43 0 [.t (.list 1 z (ints l))] e0 = some (.t (.bool b), e0) ∧ (b = true ↔ Sorted l) := by
  rw [eq43, R43, ints_len]
  by_cases h0 : l.length = 0
  · have hw : IntKind.i64.wrap ((l.length : Int) - 1) = -1 := by rw [h0]; rfl
    rw [hw, L43_2_eq, RL43_2]
    exact ⟨true, rfl, by constructor <;> intro h; · intro j h1 h2; omega
                         · rfl⟩
  · have hw : IntKind.i64.wrap ((l.length : Int) - 1) = ((l.length - 1 : Nat) : Int) := by rw [wrap64 (by omega) (by omega)]; omega
    obtain ⟨b, h1, h2⟩ := L43_spec z l hb (l.length - 1) (by omega)
    rw [hw]
    refine ⟨b, h1, h2.trans ?_⟩
    unfold Sorted
    constructor
    · intro h j h3 h4; exact h j h3 (by omega)
    · intro h j h3 h4; exact h j h3 (by omega)
/-- The variable that a closure has taken along. -/
abbrev lvB (k s : Int) (pz : Bool) (P : List T) (cz : Bool) (C : List T) : Bs := [(0, .var [.t (.int .i64 k), .t (.int .i64 s), .t (.list 1 pz P), .t (.list 1 cz C)])]
theorem out35 (c : Int) (P C : List T) : vr 35 0 [.t (.int .i64 c), .ptr 0 0 0] ⟨lvB k s pz P cz C, []⟩ = some (.t (.bool (decide (c < 0) || decide (s ≤ c))), ⟨lvB k s pz P cz C, [500]⟩) := by
  rw [eq35, R35]
  cases decide (c < 0) <;> rfl
theorem L44_spec (z : Bool) (P C : List T) (hb : crd.length ≤ 9223372036854775806) : ∀ (m i : Nat), m + i = crd.length → ∃ r : Int, L44_2 z (ints crd) (crd.length : Int) (i : Int) k s pz P cz C = some (.t (.int .i64 r), ⟨lvB k s pz P cz C, [500]⟩) ∧
    (0 ≤ r ↔ ∃ j, i ≤ j ∧ j < crd.length ∧ (nth crd j < 0 ∨ s ≤ nth crd j))
  | 0, i, h => by
    have d : decide ((i : Int) < (crd.length : Int)) = false := decide_eq_false (by omega)
    rw [L44_2_eq, RL44_2, d, cf]
    exact ⟨-1, rfl, by constructor
                       · intro h; omega
                       · rintro ⟨j, h1, h2, _⟩; omega⟩
  | m + 1, i, h => by
    have d : decide ((i : Int) < (crd.length : Int)) = true := decide_eq_true (by omega)
    obtain ⟨r, h1, h2⟩ := L44_spec z P C hb m (i + 1) (by omega)
    rw [L44_2_eq, RL44_2, d, ct, needNat, Int.toNat_natCast, getI (by omega), out35, callK_some, asT_t, asB_bool]
    simp only [callK_some, asT_t, asI_int, asB_bool, asS_str, asL_list, asA_agg, consT_cons, endT_nil, asG_agg, asTup_tup, consV_cons, endV_nil, endB_nil, consB_cons, asArr_arr, asAv_av, asMp_map, asVar_var, isBuf_buf, isPtr_ptr, needC_t, ct, cf, bNT, bNF, bTA, bAT, bFA, bAF, bTO, bOT, bFO, bOF, dT, dF]
    rw [natWrap (by omega), h1]
    by_cases hc : nth crd i < 0 ∨ s ≤ nth crd i
    · have : (decide (nth crd i < 0) || decide (s ≤ nth crd i)) = true := by
        rcases hc with h | h
        · rw [decide_eq_true h, bTO]
        · rw [decide_eq_true h, bOT]
      rw [this, ct]
      exact ⟨_, rfl, by constructor
                        · intro _; exact ⟨i, Nat.le_refl _, by omega, hc⟩
                        · intro _; omega⟩
    · have : (decide (nth crd i < 0) || decide (s ≤ nth crd i)) = false := by
        rw [decide_eq_false (fun h => hc (.inl h)), decide_eq_false (fun h => hc (.inr h)), bFO]
      rw [this, cf]
      refine ⟨r, rfl, h2.trans ?_⟩
      constructor
      · rintro ⟨j, h3, h4, h5⟩; exact ⟨j, by omega, h4, h5⟩
      · rintro ⟨j, h3, h4, h5⟩
        refine ⟨j, ?_, h4, h5⟩
        rcases Nat.lt_or_ge i j with h | h
        · omega
        · have : j = i := by omega
          subst this; exact absurd h5 hc
theorem contains34 (z : Bool) (P C : List T) (hb : crd.length ≤ 9223372036854775806) : ∃ b, vr 34 0 [.t (.list 1 z (ints crd)), .fn 35 [] [.ptr 0 0 0]] ⟨lvB k s pz P cz C, []⟩ = some (.t (.bool b), ⟨lvB k s pz P cz C, [500]⟩) ∧
    (b = true ↔ ∃ j, j < crd.length ∧ (nth crd j < 0 ∨ s ≤ nth crd j)) := by
  obtain ⟨r, h1, h2⟩ := L44_spec (k := k) (s := s) (pz := pz) (cz := cz) z P C hb crd.length 0 (by omega)
  rw [eq34, R34, eq44, R44, ints_len]
  have e : ((0 : Nat) : Int) = 0 := rfl
  rw [e] at h1
  rw [h1, callK_some]
  simp only [callK_some, asT_t, asI_int, asB_bool, asS_str, asL_list, asA_agg, consT_cons, endT_nil, asG_agg, asTup_tup, consV_cons, endV_nil, endB_nil, consB_cons, asArr_arr, asAv_av, asMp_map, asVar_var, isBuf_buf, isPtr_ptr, needC_t, ct, cf, bNT, bNF, bTA, bAT, bFA, bAF, bTO, bOT, bFO, bOF, dT, dF]
  refine ⟨_, rfl, ?_⟩
  rw [decide_eq_true_iff, h2]
  constructor
  · rintro ⟨j, _, h4, h5⟩; exact ⟨j, h4, h5⟩
  · rintro ⟨j, h4, h5⟩; exact ⟨j, Nat.zero_le _, h4, h5⟩
/-- Whether a level's lists are as long as they should be. -/
def Formed (k s : Int) (pos crd : List Int) (ahead : Int) : Prop :=
  ((k = 0 ∨ (k = 4 ∧ s ≠ 0)) ∧ pos = [] ∧ crd = []) ∨ (k = 3 ∧ pos = [] ∧ (crd.length : Int) = ahead) ∨
  ((k = 1 ∨ k = 2) ∧ (pos.length : Int) = ahead + 1 ∧ nth pos 0 = 0 ∧ nth pos ahead.toNat = (crd.length : Int) ∧ Sorted pos)
theorem len0 {l : List Int} : ((ints l).length : Int) = 0 ↔ l = [] := by
  rw [ints_len]
  constructor
  · intro h; exact List.length_eq_zero_iff.1 (by omega)
  · rintro rfl; rfl
theorem formed33 (ahead : Nat) (ha : ahead ≤ 1048576) (hp : pos.length ≤ 9223372036854775807) : ∃ b, vr 33 0 [.t (lvT k s pz pos cz crd), .t (.int .i64 (ahead : Int))] e0 = some (.t (.bool b), e0) ∧ (b = true ↔ Formed k s pos crd (ahead : Int)) := by
  have J9 : ∃ b, J33_9 k s pz (ints pos) cz (ints crd) = some (.t (.bool b), e0) ∧ (b = true ↔ pos = [] ∧ crd = []) := by
    rw [J33_9_eq, RJ33_9]
    by_cases h : ((ints pos).length : Int) = 0
    · rw [decide_eq_true h, ct]
      refine ⟨_, rfl, ?_⟩
      rw [decide_eq_true_iff, len0]
      exact ⟨fun h2 => ⟨len0.1 h, h2⟩, fun h2 => h2.2⟩
    · rw [decide_eq_false h, cf]
      exact ⟨false, rfl, by constructor
                            · intro h; cases h
                            · rintro ⟨h1, _⟩; exact absurd (len0.2 h1) h⟩
  have J11 : ∃ b, J33_11 (ahead : Int) k s pz (ints pos) cz (ints crd) = some (.t (.bool b), e0) ∧ (b = true ↔ (pos.length : Int) = (ahead : Int) + 1 ∧ nth pos 0 = 0 ∧ nth pos ahead = (crd.length : Int) ∧ Sorted pos) := by
    rw [J33_11_eq, RJ33_11, ints_len, natWrap (by omega)]
    by_cases h1 : (pos.length : Int) = ((ahead + 1 : Nat) : Int)
    · rw [decide_eq_true h1, ct, need00]
      have e : ((0 : Int)).toNat = 0 := rfl
      rw [e, getI (by omega)]
      by_cases h2 : nth pos 0 = 0
      · rw [decide_eq_true h2, ct, needNat, Int.toNat_natCast, getI (by omega), ints_len]
        by_cases h3 : nth pos ahead = (crd.length : Int)
        · obtain ⟨b, h4, h5⟩ := sorted43 pz pos hp
          rw [decide_eq_true h3, ct, h4, callK_some, asT_t, asB_bool, endB_nil]
          refine ⟨b, rfl, h5.trans ⟨fun h => ⟨by omega, h2, h3, h⟩, fun h => h.2.2.2⟩⟩
        · rw [decide_eq_false h3, cf]
          exact ⟨false, rfl, by simp [h3]⟩
      · rw [decide_eq_false h2, cf]
        exact ⟨false, rfl, by simp [h2]⟩
    · rw [decide_eq_false h1, cf]
      have : ¬ (pos.length : Int) = (ahead : Int) + 1 := by omega
      exact ⟨false, rfl, by simp [this]⟩
  rw [eq33, R33]
  unfold Formed
  rw [Int.toNat_natCast]
  by_cases h4 : k = 4
  · subst h4
    rw [decide_eq_true rfl, ct]
    by_cases hs : s = 0
    · rw [decide_eq_true hs, ct]
      exact ⟨false, rfl, by simp [hs]⟩
    · rw [decide_eq_false hs, cf]
      obtain ⟨b, h1, h2⟩ := J9
      exact ⟨b, h1, by rw [h2]; simp [hs]⟩
  · rw [decide_eq_false h4, cf]
    by_cases h0 : k = 0
    · subst h0
      rw [decide_eq_true rfl, ct]
      obtain ⟨b, h1, h2⟩ := J9
      exact ⟨b, h1, by rw [h2]; simp⟩
    · rw [decide_eq_false h0, cf]
      by_cases h3 : k = 3
      · subst h3
        rw [decide_eq_true rfl, ct]
        by_cases hp0 : ((ints pos).length : Int) = 0
        · rw [decide_eq_true hp0, ct, ints_len]
          refine ⟨_, rfl, ?_⟩
          rw [decide_eq_true_iff]
          simp [len0.1 hp0]
        · rw [decide_eq_false hp0, cf]
          have : pos ≠ [] := fun h => hp0 (len0.2 h)
          exact ⟨false, rfl, by simp [this]⟩
      · rw [decide_eq_false h3, cf]
        obtain ⟨b, h1, h2⟩ := J11
        by_cases k1 : k = 1
        · subst k1
          rw [decide_eq_true rfl, ct]
          exact ⟨b, h1, by rw [h2]; simp⟩
        · rw [decide_eq_false k1, cf]
          by_cases k2 : k = 2
          · subst k2
            rw [decide_eq_true rfl, ct]
            exact ⟨b, h1, by rw [h2]; simp⟩
          · rw [decide_eq_false k2, cf]
            exact ⟨false, rfl, by simp [h4, h0, h3, k1, k2]⟩
/-- How many children there are. -/
def belowN (k s : Int) (crd : List Int) (ahead : Int) : Int := if whole k = true then ahead * s else crd.length
theorem below29 (ahead : Nat) (ha : ahead ≤ 1048576) (hs : 0 ≤ s) (hs2 : s ≤ 2147483648) : vr 29 0 [.t (lvT k s pz pos cz crd), .t (.int .i64 (ahead : Int))] e0 = some (.t (.int .i64 (belowN k s crd (ahead : Int))), e0) := by
  rw [eq29, R29, whole14, callK_some, asT_t, asB_bool, endB_nil]
  unfold belowN
  cases whole k with
  | true =>
    have h1 : 0 ≤ (ahead : Int) * s := Int.mul_nonneg (by omega) hs
    have h2 : (ahead : Int) * s ≤ 1048576 * 2147483648 := Int.mul_le_mul (by omega) hs2 hs (by omega)
    rw [ct, if_pos rfl, wrap64 (by omega) (by omega)]
  | false => rw [cf, if_neg (by simp), ints_len]
/-- Whether places of each one's children rise by so much. -/
def Rise (least : Int) (pos crd : List Int) (n : Nat) : Prop := ∀ p, p < n → ∀ i : Nat, nth pos p < (i : Int) → (i : Int) < nth pos (p + 1) → least ≤ nth crd i - nth crd (i - 1)
theorem L36_14_spec (least : Int) (z1 z2 : Bool) (part : List Int) (t22 : List T) (t23 t24 : Int) (P C : List T) (hr : ∀ c ∈ part, 0 ≤ c ∧ c < 2147483648) (hb : part.length ≤ 100000) :
    ∀ (m i : Nat), m + i = part.length → 1 ≤ i →
    ((∃ j, i ≤ j ∧ j < part.length ∧ nth part j - nth part (j - 1) < least) ∧ L36_14 least z1 (ints part) (i : Int) z2 t22 t23 t24 k s pz P cz C = some (.t (.bool false), e0)) ∨
    ((∀ j, i ≤ j → j < part.length → least ≤ nth part j - nth part (j - 1)) ∧ L36_14 least z1 (ints part) (i : Int) z2 t22 t23 t24 k s pz P cz C = L36_10 least z2 t22 t23 (IntKind.i64.wrap (t24 + 1)) k s pz P cz C)
  | 0, i, h, h1 => by
    have d : decide ((i : Int) < ((ints part).length : Int)) = false := decide_eq_false (by rw [ints_len]; omega)
    rw [L36_14_eq, RL36_14, d, cf]
    exact .inr ⟨fun j h1 h2 => by omega, rfl⟩
  | m + 1, i, h, h1 => by
    have d : decide ((i : Int) < ((ints part).length : Int)) = true := decide_eq_true (by rw [ints_len]; omega)
    have hw : IntKind.i64.wrap ((i : Int) - 1) = ((i - 1 : Nat) : Int) := by rw [wrap64 (by omega) (by omega)]; omega
    have hi := hr _ (nth_mem (l := part) (i := i) (by omega))
    have hj := hr _ (nth_mem (l := part) (i := i - 1) (by omega))
    rw [L36_14_eq, RL36_14, d, ct, needNat, Int.toNat_natCast, getI (by omega), hw, needNat, Int.toNat_natCast, getI (by omega), wrap64 (by omega) (by omega), natWrap (by omega)]
    by_cases hlt : nth part i - nth part (i - 1) < least
    · rw [decide_eq_true hlt, ct]
      exact .inl ⟨⟨i, Nat.le_refl _, by omega, hlt⟩, rfl⟩
    · rw [decide_eq_false hlt, cf]
      rcases L36_14_spec least z1 z2 part t22 t23 t24 P C hr hb m (i + 1) (by omega) (by omega) with ⟨⟨j, h2, h3, h4⟩, h5⟩ | ⟨h2, h3⟩
      · exact .inl ⟨⟨j, by omega, h3, h4⟩, h5⟩
      · refine .inr ⟨fun j h4 h5 => ?_, h3⟩
        by_cases hj : j = i
        · subst hj; omega
        · exact h2 j (by omega) h5
theorem L36_10_spec (least : Int) (z1 z2 : Bool) (hr : ∀ c ∈ crd, 0 ≤ c ∧ c < 2147483648) (hb : crd.length ≤ 65536) (n : Nat) (hn : pos.length = n + 1) (hn2 : n ≤ 1048576) (hs : Sorted pos) (h0 : nth pos 0 = 0) (hl : nth pos n = (crd.length : Int)) :
    ∀ (m p : Nat), m + p = n → ∃ b, L36_10 least z1 (ints (pos.take n)) ((ints (pos.take n)).length : Int) (p : Int) k s pz (ints pos) cz (ints crd) = some (.t (.bool b), e0) ∧
      (b = true ↔ ∀ q, p ≤ q → q < n → ∀ i : Nat, nth pos q < (i : Int) → (i : Int) < nth pos (q + 1) → least ≤ nth crd i - nth crd (i - 1))
  | 0, p, h => by
    have d : decide ((p : Int) < ((ints (pos.take n)).length : Int)) = false := decide_eq_false (by rw [ints_len, List.length_take]; omega)
    rw [L36_10_eq, RL36_10, d, cf]
    exact ⟨true, rfl, by constructor
                         · intro _ q h1 h2; omega
                         · intro _; rfl⟩
  | m + 1, p, h => by
    have mono : ∀ a b : Nat, a ≤ b → b ≤ n → nth pos a ≤ nth pos b := by
      intro a b hab
      induction b with
      | zero => intro _; have : a = 0 := by omega
                subst this; exact Int.le_refl _
      | succ b ih =>
        intro hb
        by_cases h : a = b + 1
        · subst h; exact Int.le_refl _
        · have h1 := ih (by omega) (by omega)
          have h2 := hs (b + 1) (by omega) (by omega)
          simp only [Nat.add_sub_cancel] at h2
          omega
    have hlen : (pos.take n).length = n := by rw [List.length_take]; omega
    have d : decide ((p : Int) < ((ints (pos.take n)).length : Int)) = true := decide_eq_true (by rw [ints_len, hlen]; omega)
    have m1 := mono 0 p (by omega) (by omega)
    have m2 := mono p (p + 1) (by omega) (by omega)
    have m3 := mono (p + 1) n (by omega) (Nat.le_refl _)
    obtain ⟨a, ea⟩ : ∃ a : Nat, nth pos p = (a : Int) := ⟨(nth pos p).toNat, by omega⟩
    obtain ⟨b, eb⟩ : ∃ b : Nat, nth pos (p + 1) = (b : Int) := ⟨(nth pos (p + 1)).toNat, by omega⟩
    have hcut : nth (pos.take n) p = (a : Int) := by rw [nth_take (by omega) (by omega), ea]
    rw [L36_10_eq, RL36_10, d, ct, needNat, Int.toNat_natCast, getI (by rw [hlen]; omega), natWrap (by omega), needNat, Int.toNat_natCast, getI (by omega), hcut, eb, cutI (by omega) (by omega)]
    have hpl : ((crd.take b).drop a).length = b - a := by rw [List.length_drop, List.length_take]; omega
    have hpn : ∀ j, j < b - a → nth ((crd.take b).drop a) j = nth crd (a + j) := fun j hj => by
      rw [nth_drop (by rw [List.length_take]; omega), nth_take (by omega) (by omega)]
    have hpr : ∀ c ∈ (crd.take b).drop a, 0 ≤ c ∧ c < 2147483648 := fun c hc => hr c (List.mem_of_mem_take (List.mem_of_mem_drop hc))
    obtain ⟨bb, g1, g2⟩ := L36_10_spec least z1 z2 hr hb n hn hn2 hs h0 hl m (p + 1) (by omega)
    have conv : (∀ j, 1 ≤ j → j < ((crd.take b).drop a).length → least ≤ nth ((crd.take b).drop a) j - nth ((crd.take b).drop a) (j - 1)) ↔ (∀ i : Nat, nth pos p < (i : Int) → (i : Int) < nth pos (p + 1) → least ≤ nth crd i - nth crd (i - 1)) := by
      rw [hpl, ea, eb]
      constructor
      · intro h i h1 h2
        have := h (i - a) (by omega) (by omega)
        rw [hpn _ (by omega), hpn _ (by omega)] at this
        have e1 : a + (i - a) = i := by omega
        have e2 : a + (i - a - 1) = i - 1 := by omega
        rw [e1, e2] at this
        exact this
      · intro h j h1 h2
        have := h (a + j) (by omega) (by omega)
        rw [hpn _ (by omega), hpn _ (by omega)]
        have e2 : a + (j - 1) = a + j - 1 := by omega
        rw [e2]
        exact this
    have tail : (∀ q, p ≤ q → q < n → ∀ i : Nat, nth pos q < (i : Int) → (i : Int) < nth pos (q + 1) → least ≤ nth crd i - nth crd (i - 1)) ↔ (∀ i : Nat, nth pos p < (i : Int) → (i : Int) < nth pos (p + 1) → least ≤ nth crd i - nth crd (i - 1)) ∧ (∀ q, p + 1 ≤ q → q < n → ∀ i : Nat, nth pos q < (i : Int) → (i : Int) < nth pos (q + 1) → least ≤ nth crd i - nth crd (i - 1)) := by
      constructor
      · intro h; exact ⟨h p (Nat.le_refl _) (by omega), fun q h1 h2 => h q (by omega) h2⟩
      · rintro ⟨h1, h2⟩ q h3 h4
        by_cases hq : q = p
        · subst hq; exact h1
        · exact h2 q (by omega) h4
    rw [tail, ← conv]
    by_cases hone : b - a = 0
    · have d2 : decide ((1 : Int) < ((ints ((crd.take b).drop a)).length : Int)) = false := decide_eq_false (by rw [ints_len, hpl]; omega)
      rw [L36_14_eq, RL36_14, d2, cf, natWrap (by omega)]
      refine ⟨bb, g1, g2.trans ⟨fun h => ⟨fun j h1 h2 => by omega, h⟩, fun h => h.2⟩⟩
    · have e1 : (1 : Int) = ((1 : Nat) : Int) := rfl
      rw [e1]
      rcases L36_14_spec (k := k) (s := s) (pz := pz) (cz := cz) least cz z1 ((crd.take b).drop a) (ints (pos.take n)) ((ints (pos.take n)).length : Int) (p : Int) (ints pos) (ints crd) hpr (by rw [hpl]; omega) (b - a - 1) 1 (by rw [hpl]; omega) (Nat.le_refl _) with ⟨⟨j, h1, h2, h3⟩, h4⟩ | ⟨h1, h2⟩
      · refine ⟨false, h4, by constructor
                              · intro h; cases h
                              · rintro ⟨h5, _⟩
                                have := h5 j h1 h2
                                omega⟩
      · rw [h2, natWrap (by omega)]
        exact ⟨bb, g1, g2.trans ⟨fun h => ⟨h1, h⟩, fun h => h.2⟩⟩
/-- Which level may be. -/
structure Valid (k s : Int) (pos crd : List Int) (ahead : Int) : Prop where
  a0 : 0 ≤ ahead
  a1 : ahead ≤ 1048576
  s0 : 0 ≤ s
  s1 : s ≤ 2147483648
  form : Formed k s pos crd ahead
  many : crd.length ≤ 65536
  below : belowN k s crd ahead ≤ 1048576
  rng : ∀ c ∈ crd, 0 ≤ c ∧ c < s
  rise : k = 1 ∨ k = 2 → Rise (if k = 2 then 0 else 1) pos crd ahead.toNat
theorem rising36 (ahead : Nat) (ha : ahead ≤ 1048576) (hf : Formed k s pos crd (ahead : Int)) (hr : ∀ c ∈ crd, 0 ≤ c ∧ c < 2147483648) (hb : crd.length ≤ 65536) :
    ∃ b, vr 36 0 [.t (lvT k s pz pos cz crd)] e0 = some (.t (.bool b), e0) ∧ (b = true ↔ (k = 1 ∨ k = 2 → Rise (if k = 2 then 0 else 1) pos crd ahead)) := by
  have J9 : ∀ least : Int, (k = 1 ∨ k = 2) → ∃ b, J36_9 least k s pz (ints pos) cz (ints crd) = some (.t (.bool b), e0) ∧ (b = true ↔ Rise least pos crd ahead) := by
    intro least hk
    rcases hf with ⟨h, _⟩ | ⟨h, _⟩ | ⟨_, h1, h2, h3, h4⟩
    · omega
    · omega
    · rw [Int.toNat_natCast] at h3
      have hl : pos.length = ahead + 1 := by omega
      have hw : IntKind.i64.wrap ((pos.length : Int) - 1) = (ahead : Int) := by rw [wrap64 (by omega) (by omega)]; omega
      rw [J36_9_eq, RJ36_9, ints_len, hw, cutI0 (by omega)]
      obtain ⟨b, g1, g2⟩ := L36_10_spec (k := k) (s := s) (pz := pz) (cz := cz) least pz pz hr hb ahead hl ha h4 h2 h3 ahead 0 (by omega)
      refine ⟨b, g1, g2.trans ⟨fun h p h5 => h p (Nat.zero_le _) h5, fun h q _ h5 => h q h5⟩⟩
  rw [eq36, R36]
  by_cases h2 : k = 2
  · subst h2
    obtain ⟨b, g1, g2⟩ := J9 0 (.inr rfl)
    rw [decide_eq_true rfl, ct]
    exact ⟨b, g1, by rw [g2]; simp⟩
  · rw [decide_eq_false h2, cf]
    by_cases h3 : k = 3
    · rw [decide_eq_true h3, ct]
      exact ⟨true, rfl, by simp; omega⟩
    · rw [decide_eq_false h3, cf]
      by_cases h0 : k = 0
      · rw [decide_eq_true h0, ct]
        exact ⟨true, rfl, by simp; omega⟩
      · rw [decide_eq_false h0, cf]
        by_cases h4 : k = 4
        · rw [decide_eq_true h4, ct]
          exact ⟨true, rfl, by simp; omega⟩
        · rw [decide_eq_false h4, cf]
          have hk : k = 1 := by
            rcases hf with ⟨h, _⟩ | ⟨h, _⟩ | ⟨h, _⟩ <;> omega
          subst hk
          obtain ⟨b, g1, g2⟩ := J9 1 (.inl rfl)
          exact ⟨b, g1, by rw [g2]; simp⟩
open Classical in
/-- What is wrong with a level: the first thing. -/
noncomputable def checkE (k s : Int) (pos crd : List Int) (n : Int) : Int :=
  if n < 0 ∨ 1048576 < n ∨ s < 0 ∨ 2147483648 < s then 1
  else if ¬ Formed k s pos crd n then 1
  else if 65536 < (crd.length : Int) ∨ 1048576 < belowN k s crd n then 2
  else if ∃ c ∈ crd, c < 0 ∨ s ≤ c then 3
  else if ¬ (k = 1 ∨ k = 2 → Rise (if k = 2 then 0 else 1) pos crd n.toNat) then 1
  else 0
theorem checkE1 {n : Int} (h : n < 0 ∨ 1048576 < n ∨ s < 0 ∨ 2147483648 < s) : checkE k s pos crd n = 1 := by
  unfold checkE
  rw [if_pos h]
theorem checkE2 {n : Int} (h : ¬ (n < 0 ∨ 1048576 < n ∨ s < 0 ∨ 2147483648 < s)) (h2 : ¬ Formed k s pos crd n) : checkE k s pos crd n = 1 := by
  unfold checkE
  rw [if_neg h, if_pos h2]
theorem checkE3 {n : Int} (h : ¬ (n < 0 ∨ 1048576 < n ∨ s < 0 ∨ 2147483648 < s)) (h2 : Formed k s pos crd n) (h3 : 65536 < (crd.length : Int) ∨ 1048576 < belowN k s crd n) : checkE k s pos crd n = 2 := by
  unfold checkE
  rw [if_neg h, if_neg (fun hn => hn h2), if_pos h3]
theorem checkE4 {n : Int} (h : ¬ (n < 0 ∨ 1048576 < n ∨ s < 0 ∨ 2147483648 < s)) (h2 : Formed k s pos crd n) (h3 : ¬ (65536 < (crd.length : Int) ∨ 1048576 < belowN k s crd n)) (h4 : ∃ c ∈ crd, c < 0 ∨ s ≤ c) : checkE k s pos crd n = 3 := by
  unfold checkE
  rw [if_neg h, if_neg (fun hn => hn h2), if_neg h3, if_pos h4]
theorem checkE5 {n : Int} (h : ¬ (n < 0 ∨ 1048576 < n ∨ s < 0 ∨ 2147483648 < s)) (h2 : Formed k s pos crd n) (h3 : ¬ (65536 < (crd.length : Int) ∨ 1048576 < belowN k s crd n)) (h4 : ¬ ∃ c ∈ crd, c < 0 ∨ s ≤ c) (h5 : ¬ (k = 1 ∨ k = 2 → Rise (if k = 2 then 0 else 1) pos crd n.toNat)) : checkE k s pos crd n = 1 := by
  unfold checkE
  rw [if_neg h, if_neg (fun hn => hn h2), if_neg h3, if_neg h4, if_pos h5]
theorem checkE0 {n : Int} (h : ¬ (n < 0 ∨ 1048576 < n ∨ s < 0 ∨ 2147483648 < s)) (h2 : Formed k s pos crd n) (h3 : ¬ (65536 < (crd.length : Int) ∨ 1048576 < belowN k s crd n)) (h4 : ¬ ∃ c ∈ crd, c < 0 ∨ s ≤ c) (h5 : k = 1 ∨ k = 2 → Rise (if k = 2 then 0 else 1) pos crd n.toNat) : checkE k s pos crd n = 0 := by
  unfold checkE
  rw [if_neg h, if_neg (fun hn => hn h2), if_neg h3, if_neg h4, if_neg (fun hn => hn h5)]
theorem check19 (ahead : Int) (hp : pos.length ≤ 9223372036854775807) (hc : crd.length ≤ 9223372036854775806) : ∃ e : Int, vr 19 0 [.t (lvT k s pz pos cz crd), .t (.int .i64 ahead)] e0 = some (.t (.int .i64 e), e0) ∧ (e = 0 ↔ Valid k s pos crd ahead) ∧ 0 ≤ e ∧ e ≤ 3 ∧ e = checkE k s pos crd ahead := by
  rw [eq19, R19]
  have no : ∀ e : Int, 1 ≤ e → e ≤ 3 → ¬ Valid k s pos crd ahead → checkE k s pos crd ahead = e → ∃ e' : Int, (some (V.t (.int .i64 e), e0) : Option Res) = some (.t (.int .i64 e'), e0) ∧ (e' = 0 ↔ Valid k s pos crd ahead) ∧ 0 ≤ e' ∧ e' ≤ 3 ∧ e' = checkE k s pos crd ahead := by
    intro e h1 h2 h3 h4
    refine ⟨e, rfl, ⟨fun h => ?_, fun h => absurd h h3⟩, by omega, h2, h4.symm⟩
    omega
  by_cases g1 : ahead < 0
  · rw [decide_eq_true g1, ct]; exact no 1 (by omega) (by omega) (fun h => by have := h.a0; omega) (checkE1 (by omega))
  rw [decide_eq_false g1, cf]
  by_cases g2 : 1048576 < ahead
  · rw [decide_eq_true g2, ct]; exact no 1 (by omega) (by omega) (fun h => by have := h.a1; omega) (checkE1 (by omega))
  rw [decide_eq_false g2, cf]
  by_cases g3 : s < 0
  · rw [decide_eq_true g3, ct]; exact no 1 (by omega) (by omega) (fun h => by have := h.s0; omega) (checkE1 (by omega))
  rw [decide_eq_false g3, cf]
  by_cases g4 : 2147483648 < s
  · rw [decide_eq_true g4, ct]; exact no 1 (by omega) (by omega) (fun h => by have := h.s1; omega) (checkE1 (by omega))
  rw [decide_eq_false g4, cf]
  obtain ⟨n, rfl⟩ : ∃ n : Nat, ahead = (n : Int) := ⟨ahead.toNat, by omega⟩
  obtain ⟨b, h1, h2⟩ := formed33 (k := k) (s := s) (pz := pz) (cz := cz) (pos := pos) (crd := crd) n (by omega) hp
  rw [h1, callK_some, asT_t, asB_bool, endB_nil]
  cases b with
  | false =>
    rw [bNF, ct]
    exact no 1 (by omega) (by omega) (fun h => by have := h2.2 h.form; cases this) (checkE2 (by omega) fun h => by have := h2.2 h; cases this)
  | true =>
    have hform := h2.1 rfl
    rw [bNT, cf, ints_len]
    by_cases g5 : (65536 : Int) < (crd.length : Int)
    · rw [decide_eq_true g5, ct]; exact no 2 (by omega) (by omega) (fun h => by have := h.many; omega) (checkE3 (by omega) hform (.inl g5))
    rw [decide_eq_false g5, cf, below29 n (by omega) (by omega) (by omega), callK_some, asT_t, asI_int, endB_nil]
    by_cases g6 : 1048576 < belowN k s crd (n : Int)
    · rw [decide_eq_true g6, ct]; exact no 2 (by omega) (by omega) (fun h => by have := h.below; omega) (checkE3 (by omega) hform (.inr g6))
    obtain ⟨b2, h3, h4⟩ := contains34 (k := k) (s := s) (pz := pz) (cz := cz) (crd := crd) cz (ints pos) (ints crd) hc
    rw [decide_eq_false g6, cf, h3, callK_some, asT_t, asB_bool]
    simp only [callK_some, asT_t, asI_int, asB_bool, asS_str, asL_list, asA_agg, consT_cons, endT_nil, asG_agg, asTup_tup, consV_cons, endV_nil, endB_nil, consB_cons, asArr_arr, asAv_av, asMp_map, asVar_var, isBuf_buf, isPtr_ptr, needC_t, ct, cf, bNT, bNF, bTA, bAT, bFA, bAF, bTO, bOT, bFO, bOF, dT, dF]
    cases b2 with
    | true =>
      rw [ct]
      obtain ⟨j, h5, h6⟩ := h4.1 rfl
      refine no 3 (by omega) (by omega) (fun h => ?_) (checkE4 (by omega) hform (by omega) ⟨_, nth_mem h5, h6⟩)
      have := h.rng _ (nth_mem h5)
      omega
    | false =>
      have hrng : ∀ c ∈ crd, 0 ≤ c ∧ c < s := by
        intro c hc
        obtain ⟨j, hj⟩ := List.getElem?_of_mem hc
        have hjl : j < crd.length := (List.getElem?_eq_some_iff.1 hj).1
        rw [nth_at hjl] at hj
        cases hj
        have : ¬ (nth crd j < 0 ∨ s ≤ nth crd j) := fun h => by have := h4.2 ⟨j, hjl, h⟩; cases this
        omega
      obtain ⟨b3, h5, h6⟩ := rising36 (k := k) (s := s) (pz := pz) (cz := cz) (pos := pos) (crd := crd) n (by omega) hform (fun c hc => by have := hrng c hc; omega) (by omega)
      rw [cf, h5, callK_some, asT_t, asB_bool, endB_nil]
      cases b3 with
      | true =>
        rw [bNT, cf]
        refine ⟨0, rfl, ⟨fun _ => ⟨by omega, by omega, by omega, by omega, hform, by omega, by omega, hrng, by rw [Int.toNat_natCast]; exact h6.1 rfl⟩, fun _ => rfl⟩, by omega, by omega, (checkE0 (by omega) hform (by omega) (fun ⟨c, h7, h8⟩ => by have := hrng c h7; omega) (by rw [Int.toNat_natCast]; exact h6.1 rfl)).symm⟩
      | false =>
        rw [bNF, ct]
        have h8 : ¬ (k = 1 ∨ k = 2 → Rise (if k = 2 then 0 else 1) pos crd ((n : Int)).toNat) := fun h => by
          rw [Int.toNat_natCast] at h
          have := h6.2 h
          cases this
        exact no 1 (by omega) (by omega) (fun h => h8 h.rise) (checkE5 (by omega) hform (by omega) (fun ⟨c, h7, h9⟩ => by have := hrng c h7; omega) h8)
end
end Go.Proofs.Ytejfkiohnoiagaa.VM
end

section
namespace Go.Proofs.Ytejfkiohnoiagaa.VM
set_option linter.unusedSectionVars false
open Go AM
theorem half (i j : Nat) (h : i + j < 4611686018427387904) : IntKind.i64.wrap (shrI .u64 (IntKind.u64.wrap (IntKind.i64.wrap ((i : Int) + (j : Int)))) 1) = (((i + j) / 2 : Nat) : Int) := by
  rw [wrap64 (n := (i : Int) + (j : Int)) (by omega) (by omega), IntKind.wrap_u64]
  have e : shrI .u64 (((i : Int) + (j : Int)) % 18446744073709551616) 1 = (((i + j) / 2 : Nat) : Int) := by
    unfold shrI
    have e2 : (2 : Int) ^ (min (1 : Int).toNat IntKind.u64.bits) = 2 := rfl
    rw [e2, Int.fdiv_eq_ediv_of_nonneg _ (by omega)]
    omega
  rw [e, wrap64 (by omega) (by omega)]
/-- slices.BinarySearch over what rises. -/
theorem L37_spec (z : Bool) (l : List Int) (t : Int) (hb : l.length ≤ 70000) (hs : ∀ a b, a ≤ b → b < l.length → nth l a ≤ nth l b) : ∀ (d i j : Nat), j - i = d → i ≤ j → j ≤ l.length → (∀ a, a < i → nth l a < t) → (∀ a, j ≤ a → a < l.length → t ≤ nth l a) →
    ∃ r : Nat, L37_3 z (ints l) t (l.length : Int) (i : Int) (j : Int) = some (.tup [.t (.int .i64 (r : Int)), .t (.bool (decide (r < l.length) && decide (nth l r = t)))], e0) ∧ r ≤ l.length ∧ (∀ a, a < r → nth l a < t) ∧ (∀ a, r ≤ a → a < l.length → t ≤ nth l a) := by
  intro d
  induction d using Nat.strongRecOn with
  | ind d ih =>
    intro i j hd hij hj h1 h2
    rw [L37_3_eq, RL37_3]
    by_cases hlt : i < j
    · have d1 : decide ((i : Int) < (j : Int)) = true := decide_eq_true (by omega)
      rw [d1, ct, half i j (by omega), needNat, Int.toNat_natCast, getI (by omega), less45, callK_some, asT_t, asB_bool, endB_nil]
      by_cases hc : nth l ((i + j) / 2) < t
      · rw [decide_eq_true hc, ct, natWrap (by omega)]
        refine ih (j - ((i + j) / 2 + 1)) (by omega) ((i + j) / 2 + 1) j rfl (by omega) hj (fun a ha => ?_) h2
        have := hs a ((i + j) / 2) (by omega) (by omega)
        omega
      · rw [decide_eq_false hc, cf]
        refine ih ((i + j) / 2 - i) (by omega) i ((i + j) / 2) rfl (by omega) (by omega) h1 (fun a ha hal => ?_)
        have := hs ((i + j) / 2) a ha hal
        omega
    · have hi : i = j := by omega
      subst hi
      have d1 : decide ((i : Int) < (i : Int)) = false := decide_eq_false (by omega)
      rw [d1, cf]
      refine ⟨i, ?_, hj, h1, h2⟩
      by_cases hl : i < l.length
      · have d2 : decide ((i : Int) < (l.length : Int)) = true := decide_eq_true (by omega)
        rw [d2, ct, needNat, Int.toNat_natCast, getI hl, decide_eq_true hl, bTA]
        by_cases he : nth l i = t
        · rw [decide_eq_true he, ct]
        · rw [decide_eq_false he, cf, needNat, getI hl, nan46, callK_some, asT_t, asB_bool, endB_nil, cf]
      · have d2 : decide ((i : Int) < (l.length : Int)) = false := decide_eq_false (by omega)
        rw [d2, cf, decide_eq_false hl, bFA]
theorem search37 (z : Bool) (l : List Int) (t : Int) (hb : l.length ≤ 70000) (hs : ∀ a b, a ≤ b → b < l.length → nth l a ≤ nth l b) :
    ∃ r : Nat, vr 37 0 [.t (.list 1 z (ints l)), .t (.int .i64 t)] e0 = some (.tup [.t (.int .i64 (r : Int)), .t (.bool (decide (r < l.length) && decide (nth l r = t)))], e0) ∧ r ≤ l.length ∧ (∀ a, a < r → nth l a < t) ∧ (∀ a, r ≤ a → a < l.length → t ≤ nth l a) := by
  rw [eq37, R37, ints_len]
  exact L37_spec z l t hb hs l.length 0 l.length rfl (by omega) (Nat.le_refl _) (fun a ha => by omega) (fun a h1 h2 => by omega)
theorem cmp39 (a b : Int) : vr 39 0 [.t (.int .i64 a), .t (.int .i64 b)] e0 = some (.t (.int .i64 (if a ≤ b then -1 else 1)), e0) := by
  rw [eq39, R39]
  by_cases h : a ≤ b
  · rw [decide_eq_true h, if_pos h, ct]
  · rw [decide_eq_false h, if_neg h, cf]
theorem L38_spec (z : Bool) (l : List Int) (t : Int) (hb : l.length ≤ 2000000) (hs : ∀ a b, a ≤ b → b < l.length → nth l a ≤ nth l b) : ∀ (d i j : Nat), j - i = d → i ≤ j → j ≤ l.length → (∀ a, a < i → nth l a ≤ t) → (∀ a, j ≤ a → a < l.length → t < nth l a) →
    ∃ (r : Nat) (b : Bool), L38_3 z (ints l) t (l.length : Int) (i : Int) (j : Int) = some (.tup [.t (.int .i64 (r : Int)), .t (.bool b)], e0) ∧ r ≤ l.length ∧ (∀ a, a < r → nth l a ≤ t) ∧ (∀ a, r ≤ a → a < l.length → t < nth l a) := by
  intro d
  induction d using Nat.strongRecOn with
  | ind d ih =>
    intro i j hd hij hj h1 h2
    rw [L38_3_eq, RL38_3]
    by_cases hlt : i < j
    · have d1 : decide ((i : Int) < (j : Int)) = true := decide_eq_true (by omega)
      rw [d1, ct, half i j (by omega), needNat, Int.toNat_natCast, getI (by omega), cmp39, callK_some, asT_t, asI_int, endB_nil]
      by_cases hc : nth l ((i + j) / 2) ≤ t
      · have d2 : decide ((-1 : Int) < 0) = true := rfl
        rw [if_pos hc, d2, ct, natWrap (by omega)]
        refine ih (j - ((i + j) / 2 + 1)) (by omega) ((i + j) / 2 + 1) j rfl (by omega) hj (fun a ha => ?_) h2
        have := hs a ((i + j) / 2) (by omega) (by omega)
        omega
      · have d2 : decide ((1 : Int) < 0) = false := rfl
        rw [if_neg hc, d2, cf]
        refine ih ((i + j) / 2 - i) (by omega) i ((i + j) / 2) rfl (by omega) (by omega) h1 (fun a ha hal => ?_)
        have := hs ((i + j) / 2) a ha hal
        omega
    · have hi : i = j := by omega
      subst hi
      have d1 : decide ((i : Int) < (i : Int)) = false := decide_eq_false (by omega)
      rw [d1, cf]
      by_cases hl : i < l.length
      · have d2 : decide ((i : Int) < (l.length : Int)) = true := decide_eq_true (by omega)
        rw [d2, ct, needNat, Int.toNat_natCast, getI hl, cmp39, callK_some, asT_t, asI_int, endB_nil]
        exact ⟨i, _, rfl, hj, h1, h2⟩
      · have d2 : decide ((i : Int) < (l.length : Int)) = false := decide_eq_false (by omega)
        rw [d2, cf]
        exact ⟨i, _, rfl, hj, h1, h2⟩
theorem searchF38 (z : Bool) (l : List Int) (t : Int) (hb : l.length ≤ 2000000) (hs : ∀ a b, a ≤ b → b < l.length → nth l a ≤ nth l b) :
    ∃ (r : Nat) (b : Bool), vr 38 0 [.t (.list 1 z (ints l)), .t (.int .i64 t), .fn 39 [] []] e0 = some (.tup [.t (.int .i64 (r : Int)), .t (.bool b)], e0) ∧ r ≤ l.length ∧ (∀ a, a < r → nth l a ≤ t) ∧ (∀ a, r ≤ a → a < l.length → t < nth l a) := by
  rw [eq38, R38, ints_len]
  exact L38_spec z l t hb hs l.length 0 l.length rfl (by omega) (Nat.le_refl _) (fun a ha => by omega) (fun a h1 h2 => by omega)
theorem sorted_le {l : List Int} (hs : Sorted l) : ∀ (b a : Nat), a ≤ b → b < l.length → nth l a ≤ nth l b
  | 0, a, h, _ => by have : a = 0 := by omega
                     subst this; exact Int.le_refl _
  | b + 1, a, h, hb => by
    by_cases e : a = b + 1
    · subst e; exact Int.le_refl _
    · have h1 := sorted_le hs b a (by omega) (by omega)
      have h2 := hs (b + 1) (by omega) hb
      simp only [Nat.add_sub_cancel] at h2
      omega
/-- Lists of numbers are the same. -/
theorem L32_spec (z1 z2 : Bool) (a b : List Int) (hl : a.length = b.length) (hb : a.length ≤ 9223372036854775806) : ∀ (m i : Nat), m + i = a.length → ∃ r, L32_4 z1 (ints a) z2 (ints b) (a.length : Int) (i : Int) = some (.t (.bool r), e0) ∧ (r = true ↔ ∀ j, i ≤ j → j < a.length → nth a j = nth b j)
  | 0, i, h => by
    have d : decide ((i : Int) < (a.length : Int)) = false := decide_eq_false (by omega)
    rw [L32_4_eq, RL32_4, d, cf]
    exact ⟨true, rfl, ⟨fun _ j h1 h2 => by omega, fun _ => rfl⟩⟩
  | m + 1, i, h => by
    have d : decide ((i : Int) < (a.length : Int)) = true := decide_eq_true (by omega)
    obtain ⟨r, h1, h2⟩ := L32_spec z1 z2 a b hl hb m (i + 1) (by omega)
    rw [L32_4_eq, RL32_4, d, ct, needNat, Int.toNat_natCast, getI (by omega), needNat, getI (by omega), natWrap (by omega), h1]
    by_cases he : nth a i = nth b i
    · rw [decide_eq_true he, bNT, cf]
      refine ⟨r, rfl, h2.trans ⟨fun h j h3 h4 => ?_, fun h j h3 h4 => h j (by omega) h4⟩⟩
      by_cases hj : j = i
      · subst hj; exact he
      · exact h j (by omega) h4
    · rw [decide_eq_false he, bNF, ct]
      exact ⟨false, rfl, ⟨fun h => (by cases h), fun h => absurd (h i (Nat.le_refl _) (by omega)) he⟩⟩
theorem L16_spec (z1 z2 : Bool) (a b : List Int) (hl : a.length = b.length) (hb : a.length ≤ 9223372036854775806) : ∀ (m i : Nat), m + i = a.length → ∃ r, L16_4 z1 (ints a) z2 (ints b) (a.length : Int) (i : Int) = some (.t (.bool r), e0) ∧ (r = true ↔ ∀ j, i ≤ j → j < a.length → nth a j = nth b j)
  | 0, i, h => by
    have d : decide ((i : Int) < (a.length : Int)) = false := decide_eq_false (by omega)
    rw [L16_4_eq, RL16_4, d, cf]
    exact ⟨true, rfl, ⟨fun _ j h1 h2 => by omega, fun _ => rfl⟩⟩
  | m + 1, i, h => by
    have d : decide ((i : Int) < (a.length : Int)) = true := decide_eq_true (by omega)
    obtain ⟨r, h1, h2⟩ := L16_spec z1 z2 a b hl hb m (i + 1) (by omega)
    rw [L16_4_eq, RL16_4, d, ct, needNat, Int.toNat_natCast, getI (by omega), needNat, getI (by omega), natWrap (by omega), h1]
    by_cases he : nth a i = nth b i
    · rw [decide_eq_true he, bNT, cf]
      refine ⟨r, rfl, h2.trans ⟨fun h j h3 h4 => ?_, fun h j h3 h4 => h j (by omega) h4⟩⟩
      by_cases hj : j = i
      · subst hj; exact he
      · exact h j (by omega) h4
    · rw [decide_eq_false he, bNF, ct]
      exact ⟨false, rfl, ⟨fun h => (by cases h), fun h => absurd (h i (Nat.le_refl _) (by omega)) he⟩⟩
theorem lenEq (a b : List Int) : decide (((ints a).length : Int) = ((ints b).length : Int)) = decide (a.length = b.length) := by
  rw [ints_len, ints_len]; exact decide_eq_decide.2 (by omega)
theorem equal32 (z1 z2 : Bool) (a b : List Int) (hb : a.length ≤ 9223372036854775806) : vr 32 0 [.t (.list 1 z1 (ints a)), .t (.list 1 z2 (ints b))] e0 = some (.t (.bool (decide (a = b))), e0) := by
  rw [eq32, R32, lenEq]
  by_cases hl : a.length = b.length
  · obtain ⟨r, h1, h2⟩ := L32_spec z1 z2 a b hl hb a.length 0 (by omega)
    rw [decide_eq_true hl, bNT, cf, ints_len]
    have e : (0 : Int) = ((0 : Nat) : Int) := rfl
    rw [e, h1]
    have : r = decide (a = b) := by
      rw [Bool.eq_iff_iff, h2, decide_eq_true_iff]
      exact ⟨fun h => nth_ext hl fun i hi => h i (Nat.zero_le _) hi, fun h j _ _ => by rw [h]⟩
    rw [this]
  · rw [decide_eq_false hl, bNF, ct, decide_eq_false (fun h => hl (by rw [h]))]
theorem equal16 (z1 z2 : Bool) (a b : List Int) (hb : a.length ≤ 9223372036854775806) : vr 16 0 [.t (.list 1 z1 (ints a)), .t (.list 1 z2 (ints b))] e0 = some (.t (.bool (decide (a = b))), e0) := by
  rw [eq16, R16, lenEq]
  by_cases hl : a.length = b.length
  · obtain ⟨r, h1, h2⟩ := L16_spec z1 z2 a b hl hb a.length 0 (by omega)
    rw [decide_eq_true hl, bNT, cf, ints_len]
    have e : (0 : Int) = ((0 : Nat) : Int) := rfl
    rw [e, h1]
    have : r = decide (a = b) := by
      rw [Bool.eq_iff_iff, h2, decide_eq_true_iff]
      exact ⟨fun h => nth_ext hl fun i hi => h i (Nat.zero_le _) hi, fun h j _ _ => by rw [h]⟩
    rw [this]
  · rw [decide_eq_false hl, bNF, ct, decide_eq_false (fun h => hl (by rw [h]))]
section
variable {k s : Int} {pz cz : Bool} {pos crd : List Int}
/-- The first child, and the first behind the last one. -/
def segA (k s : Int) (pos : List Int) (p : Nat) : Int := if k = 1 ∨ k = 2 then nth pos p else if k = 3 then p else p * s
theorem segA_whole {p : Nat} (h : whole k = true) : segA k s pos p = p * s := by
  unfold whole at h
  simp only [Bool.or_eq_true, decide_eq_true_eq] at h
  unfold segA
  rw [if_neg (by omega), if_neg (by omega)]
theorem mul_le {a b s : Int} (h : a ≤ b) (hs : 0 ≤ s) : a * s ≤ b * s := Int.mul_le_mul_of_nonneg_right h hs
/-- What holds of a level that may be: its children are numbered on. -/
theorem Valid.seg (n : Nat) (v : Valid k s pos crd (n : Int)) : segA k s pos 0 = 0 ∧ segA k s pos n = belowN k s crd (n : Int) ∧ ∀ p, p < n → segA k s pos p ≤ segA k s pos (p + 1) := by
  have hs := v.s0
  rcases v.form with ⟨h, h1, h2⟩ | ⟨h, h1, h2⟩ | ⟨h, h1, h2, h3, h4⟩
  · have hw : whole k = true := by
      unfold whole
      rcases h with rfl | ⟨rfl, _⟩ <;> rfl
    unfold belowN
    rw [if_pos hw]
    refine ⟨by rw [segA_whole hw]; simp, segA_whole hw, fun p hp => ?_⟩
    rw [segA_whole hw, segA_whole hw]
    exact mul_le (by omega) hs
  · subst h
    have hw : whole 3 = false := rfl
    unfold belowN segA
    rw [hw]
    simp
    exact ⟨by omega, fun p hp => by omega⟩
  · rw [Int.toNat_natCast] at h3
    have hw : whole k = false := by rcases h with rfl | rfl <;> rfl
    unfold belowN segA
    rw [hw]
    simp only [if_pos h, Bool.false_eq_true, if_false]
    refine ⟨h2, h3, fun p hp => ?_⟩
    have := h4 (p + 1) (by omega) (by omega)
    simpa using this
theorem Valid.mono (n : Nat) (v : Valid k s pos crd (n : Int)) : ∀ (b a : Nat), a ≤ b → b ≤ n → segA k s pos a ≤ segA k s pos b
  | 0, a, h, _ => by have : a = 0 := by omega
                     subst this; exact Int.le_refl _
  | b + 1, a, h, hb => by
    by_cases e : a = b + 1
    · subst e; exact Int.le_refl _
    · have h1 := Valid.mono n v b a (by omega) (by omega)
      have h2 := (v.seg n).2.2 b (by omega)
      omega
theorem Valid.below0 (n : Nat) (v : Valid k s pos crd (n : Int)) : 0 ≤ belowN k s crd (n : Int) := by
  have := v.mono n n 0 (by omega) (Nat.le_refl _)
  rw [(v.seg n).1, (v.seg n).2.1] at this
  exact this
theorem segment31 (n : Nat) (v : Valid k s pos crd (n : Int)) (p : Nat) (hp : p < n) : vr 31 0 [.t (lvT k s pz pos cz crd), .t (.int .i64 (p : Int))] e0 = some (.tup [.t (.int .i64 (segA k s pos p)), .t (.int .i64 (segA k s pos (p + 1)))], e0) := by
  have ha := v.a1
  have hn : IntKind.i64.wrap ((p : Int) + 1) = ((p + 1 : Nat) : Int) := natWrap (by omega)
  rw [eq31, R31, hn]
  unfold segA
  by_cases h1 : k = 1
  · have hf : (pos.length : Int) = (n : Int) + 1 := by
      rcases v.form with ⟨h, _⟩ | ⟨h, _⟩ | ⟨_, h, _⟩ <;> omega
    rw [decide_eq_true h1, ct, needNat, Int.toNat_natCast, getI (by omega), needNat, Int.toNat_natCast, getI (by omega), if_pos (.inl h1), if_pos (.inl h1)]
  · rw [decide_eq_false h1, cf]
    by_cases h2 : k = 2
    · have hf : (pos.length : Int) = (n : Int) + 1 := by
        rcases v.form with ⟨h, _⟩ | ⟨h, _⟩ | ⟨_, h, _⟩ <;> omega
      rw [decide_eq_true h2, ct, needNat, Int.toNat_natCast, getI (by omega), needNat, Int.toNat_natCast, getI (by omega), if_pos (.inr h2), if_pos (.inr h2)]
    · have hk12 : ¬ (k = 1 ∨ k = 2) := by omega
      rw [decide_eq_false h2, cf]
      simp only [if_neg hk12]
      by_cases h3 : k = 3
      · rw [decide_eq_true h3, ct]
        simp only [if_pos h3]
      · have hw : whole k = true := by
          rcases v.form with ⟨h, _⟩ | ⟨h, _⟩ | ⟨h, _⟩
          · unfold whole; rcases h with rfl | ⟨rfl, _⟩ <;> rfl
          · omega
          · omega
        have hb := v.below
        have e1 := segA_whole (s := s) (pos := pos) (p := n) hw
        have e2 := (v.seg n).2.1
        have m1 := v.mono n (p + 1) p (by omega) (by omega)
        have m2 := v.mono n n (p + 1) (by omega) (by omega)
        have m3 := v.mono n p 0 (by omega) (by omega)
        rw [(v.seg n).1] at m3
        rw [segA_whole hw] at m1 m3
        rw [segA_whole hw] at m1 m2
        rw [e2] at m2
        rw [decide_eq_false h3, cf, J31_7_eq, RJ31_7, hn, wrap64 (by omega) (by omega), wrap64 (by omega) (by omega)]
        simp only [if_neg h3]
theorem ready30 (ahead p : Int) (hp : pos.length ≤ 9223372036854775807) (hc : crd.length ≤ 9223372036854775806) : ∃ e : Int, vr 30 0 [.t (lvT k s pz pos cz crd), .t (.int .i64 ahead), .t (.int .i64 p)] e0 = some (.t (.int .i64 e), e0) ∧ (e = 0 ↔ Valid k s pos crd ahead ∧ 0 ≤ p ∧ p < ahead) := by
  obtain ⟨e, h1, h2, h3, h4⟩ := check19 (k := k) (s := s) (pz := pz) (cz := cz) (pos := pos) (crd := crd) ahead hp hc
  rw [eq30, R30, h1, callK_some, asT_t, asI_int, endB_nil]
  by_cases he : e = 0
  · have hv := h2.1 he
    rw [decide_eq_true he, bNT, cf]
    by_cases h5 : p < 0
    · rw [decide_eq_true h5, ct]
      exact ⟨5, rfl, ⟨fun h => by omega, fun h => by omega⟩⟩
    · rw [decide_eq_false h5, cf]
      by_cases h6 : ahead ≤ p
      · rw [decide_eq_true h6, ct]
        exact ⟨5, rfl, ⟨fun h => by omega, fun h => by omega⟩⟩
      · rw [decide_eq_false h6, cf]
        exact ⟨0, rfl, ⟨fun _ => ⟨hv, by omega, by omega⟩, fun _ => rfl⟩⟩
  · rw [decide_eq_false he, bNF, ct]
    exact ⟨e, rfl, ⟨fun h => absurd h he, fun h => absurd (h2.2 h.1) he⟩⟩
/-- The place of child n of one whose first child is a. -/
def atOf (k : Int) (crd : List Int) (a : Int) (n : Int) : Int := if whole k = true then n - a else nth crd n.toNat
abbrev kidT (a n : Int) : T := .agg [.int .i64 a, .int .i64 n]
/-- The children of p. -/
def kids (k s : Int) (pos crd : List Int) (p : Nat) : List T := (List.range (segA k s pos (p + 1) - segA k s pos p).toNat).map fun (j : Nat) => kidT (atOf k crd (segA k s pos p) (segA k s pos p + j)) (segA k s pos p + j)
theorem range_from (f : Nat → T) (n : Nat) : ∀ m i, m + i = n → (List.range n).map f = (List.range i).map f ++ (List.range m).map fun j => f (i + j)
  | m, i, h => by
    rw [← h, Nat.add_comm, List.range_add, List.map_append, List.map_map]
    rfl
theorem L15_spec (n : Nat) (v : Valid k s pos crd (n : Int)) (p : Nat) (hp : p < n) (a b : Nat) (ha : segA k s pos p = (a : Int)) (hb : segA k s pos (p + 1) = (b : Int)) (hbb : b ≤ 1048576) (hcb : whole k = false → b ≤ crd.length) : ∀ (m i : Nat) (z : Bool) (out : List T), m + i = b → a ≤ i → out.length ≤ 1048576 + i →
    ∃ zz, L15_7 (a : Int) (b : Int) (i : Int) k s pz (ints pos) cz (ints crd) z out = some (.tup [.t (.list 2 zz (out ++ (List.range m).map fun (j : Nat) => kidT (atOf k crd (a : Int) ((i : Int) + j)) ((i : Int) + j))), .t (.int .i64 0)], e0)
  | 0, i, z, out, h, hai, ho => by
    have d : decide ((i : Int) < (b : Int)) = false := decide_eq_false (by omega)
    rw [L15_7_eq, RL15_7, d, cf]
    exact ⟨z, by simp⟩
  | m + 1, i, z, out, h, hai, ho => by
    have d : decide ((i : Int) < (b : Int)) = true := decide_eq_true (by omega)
    have J : ∀ x : Int, x = atOf k crd (a : Int) (i : Int) → ∃ zz, J15_12 (a : Int) (b : Int) (i : Int) x k s pz (ints pos) cz (ints crd) z out = some (.tup [.t (.list 2 zz (out ++ (List.range (m + 1)).map fun (j : Nat) => kidT (atOf k crd (a : Int) ((i : Int) + j)) ((i : Int) + j))), .t (.int .i64 0)], e0) := by
      intro x hx
      have n1 : (decide ((out.length + 1) * (16 + 1) ≤ 70368744177664) && decide (16 ≤ 1048576)) = true := by rw [decide_eq_true (by omega)]; rfl
      obtain ⟨zz, h1⟩ := L15_spec n v p hp a b ha hb hbb hcb m (i + 1) (z || true) (out ++ [kidT x (i : Int)]) (by omega) (by omega) (by simp; omega)
      rw [J15_12_eq, RJ15_12, needC_true n1, natWrap (by omega)]
      refine ⟨zz, h1.trans ?_⟩
      congr 6
      rw [List.append_assoc]
      congr 1
      rw [List.range_succ_eq_map, List.map_cons, List.map_map, hx]
      simp only [List.singleton_append, Int.natCast_zero, Int.add_zero]
      congr 1
      apply List.map_congr_left
      intro j _
      simp only [Function.comp]
      have : ((i + 1 : Nat) : Int) + (j : Int) = (i : Int) + ((j + 1 : Nat) : Int) := by omega
      rw [this]
    rw [L15_7_eq, RL15_7, d, ct, whole14, callK_some, asT_t, asB_bool, endB_nil]
    cases hw : whole k with
    | false =>
      have := hcb hw
      rw [bNF, ct, needNat, Int.toNat_natCast, getI (by omega)]
      refine J _ ?_
      unfold atOf
      rw [hw, if_neg (by simp), Int.toNat_natCast]
    | true =>
      rw [bNT, cf, wrap64 (by omega) (by omega)]
      refine J _ ?_
      unfold atOf
      rw [hw, if_pos rfl]
theorem Valid.segNat (n : Nat) (v : Valid k s pos crd (n : Int)) (p : Nat) (hp : p < n) : ∃ a b : Nat, segA k s pos p = (a : Int) ∧ segA k s pos (p + 1) = (b : Int) ∧ a ≤ b ∧ b ≤ 1048576 ∧ (whole k = false → b ≤ crd.length) ∧ (b : Int) ≤ belowN k s crd (n : Int) := by
  have m0 := v.mono n p 0 (by omega) (by omega)
  have m1 := v.mono n (p + 1) p (by omega) (by omega)
  have m2 := v.mono n n (p + 1) (by omega) (Nat.le_refl _)
  have hb := v.below
  rw [(v.seg n).1] at m0
  rw [(v.seg n).2.1] at m2
  refine ⟨(segA k s pos p).toNat, (segA k s pos (p + 1)).toNat, by omega, by omega, by omega, by omega, fun hw => ?_, by omega⟩
  have : belowN k s crd (n : Int) = (crd.length : Int) := by unfold belowN; rw [hw, if_neg (by simp)]
  omega
theorem children15 (n : Nat) (v : Valid k s pos crd (n : Int)) (hp' : pos.length ≤ 9223372036854775807) (p : Nat) (hp : p < n) : ∃ zz, vr 15 0 [.t (lvT k s pz pos cz crd), .t (.int .i64 (n : Int)), .t (.int .i64 (p : Int))] e0 = some (.tup [.t (.list 2 zz (kids k s pos crd p)), .t (.int .i64 0)], e0) := by
  have hmany := v.many
  obtain ⟨e, h1, h2⟩ := ready30 (k := k) (s := s) (pz := pz) (cz := cz) (pos := pos) (crd := crd) (n : Int) (p : Int) hp' (by omega)
  have he : e = 0 := h2.2 ⟨v, by omega, by omega⟩
  subst he
  obtain ⟨a, b, ha, hb, hab, hbb, hcb, _⟩ := v.segNat n p hp
  rw [eq15, R15, h1, callK_some, asT_t, asI_int, endB_nil, decide_eq_true rfl, bNT, cf, segment31 n v p hp, callK_some]
  simp only [callK_some, asT_t, asI_int, asB_bool, asS_str, asL_list, asA_agg, consT_cons, endT_nil, asG_agg, asTup_tup, consV_cons, endV_nil, endB_nil, consB_cons, asArr_arr, asAv_av, asMp_map, asVar_var, isBuf_buf, isPtr_ptr, needC_t, ct, cf, bNT, bNF, bTA, bAT, bFA, bAF, bTO, bOT, bFO, bOF, dT, dF]
  rw [ha, hb, wrap64 (by omega) (by omega)]
  have n1 : (decide (0 ≤ 0) && decide ((0 : Int) ≤ (b : Int) - (a : Int)) && decide (((b : Int) - (a : Int)) * (16 + 1) ≤ 70368744177664)) = true := by
    rw [decide_eq_true (by omega : (0 : Int) ≤ (b : Int) - (a : Int)), decide_eq_true (by omega : ((b : Int) - (a : Int)) * (16 + 1) ≤ 70368744177664)]; rfl
  obtain ⟨zz, h3⟩ := L15_spec (pz := pz) (cz := cz) n v p hp a b ha hb hbb hcb (b - a) a true [] (by omega) (Nat.le_refl _) (by simp)
  rw [needC_true n1]
  refine ⟨zz, h3.trans ?_⟩
  unfold kids
  rw [ha, hb, List.nil_append]
  have : ((b : Int) - (a : Int)).toNat = b - a := by omega
  rw [this]
end
end Go.Proofs.Ytejfkiohnoiagaa.VM
end

section
namespace Go.Proofs.Ytejfkiohnoiagaa.VM
set_option linter.unusedSectionVars false
open Go AM
section
variable {k s : Int} {pz cz : Bool} {pos crd : List Int}
theorem below13 (n : Nat) (v : Valid k s pos crd (n : Int)) (hp : pos.length ≤ 9223372036854775807) : vr 13 0 [.t (lvT k s pz pos cz crd), .t (.int .i64 (n : Int))] e0 = some (.tup [.t (.int .i64 (belowN k s crd (n : Int))), .t (.int .i64 0)], e0) := by
  have hm := v.many
  have ha := v.a1
  obtain ⟨e, h1, h2, _⟩ := check19 (k := k) (s := s) (pz := pz) (cz := cz) (pos := pos) (crd := crd) (n : Int) hp (by omega)
  have he : e = 0 := h2.2 v
  subst he
  rw [eq13, R13, h1, callK_some, asT_t, asI_int, endB_nil, decide_eq_true rfl, bNT, cf, below29 n (by omega) v.s0 v.s1, callK_some, asT_t, asI_int, endB_nil]
theorem rwhole21 : vr 21 0 [.t (lvT k s pz pos cz crd)] e0 = some (.t (.bool (whole k)), e0) := by
  rw [eq21, R21]
  unfold whole
  cases decide (k = 0) <;> rfl
theorem few18 (ahead : Int) : ∃ b, vr 18 0 [.t (lvT k s pz pos cz crd), .t (.int .i64 ahead)] e0 = some (.t (.bool b), e0) ∧ (b = true → pos.length ≤ 70000 ∧ crd.length ≤ 70000) := by
  rw [eq18, R18, ints_len, ints_len]
  by_cases h1 : (pos.length : Int) ≤ 70000
  · rw [decide_eq_true h1, ct]
    by_cases h2 : (crd.length : Int) ≤ 70000
    · rw [decide_eq_true h2, ct, rwhole21, callK_some, asT_t, asB_bool, endB_nil]
      have h3 : pos.length ≤ 70000 ∧ crd.length ≤ 70000 := by omega
      cases whole k <;> cases decide (s ≤ 5000) <;> exact ⟨_, rfl, fun _ => h3⟩
    · rw [decide_eq_false h2, cf]
      exact ⟨false, rfl, fun h => by cases h⟩
  · rw [decide_eq_false h1, cf]
    exact ⟨false, rfl, fun h => by cases h⟩
/-- Places of one's children do not fall. -/
theorem Valid.rising (n : Nat) (v : Valid k s pos crd (n : Int)) (hw : whole k = false) (p : Nat) (hp : p < n) (a b : Nat) (ha : segA k s pos p = (a : Int)) (hb : segA k s pos (p + 1) = (b : Int)) (hbl : b ≤ crd.length) : ∀ (y x : Nat), a ≤ x → x ≤ y → y < b → nth crd x ≤ nth crd y := by
  have step : ∀ i, a < i → i < b → nth crd (i - 1) ≤ nth crd i := by
    intro i h1 h2
    rcases v.form with ⟨h, _⟩ | ⟨h, _⟩ | ⟨h, h3⟩
    · exfalso; unfold whole at hw; rcases h with rfl | ⟨rfl, _⟩ <;> simp at hw
    · subst h
      have e1 : segA 3 s pos p = (p : Int) := rfl
      have e2 : segA 3 s pos (p + 1) = ((p + 1 : Nat) : Int) := rfl
      omega
    · have hr := v.rise h p (by omega) i
      have e1 : segA k s pos p = nth pos p := by unfold segA; rw [if_pos h]
      have e2 : segA k s pos (p + 1) = nth pos (p + 1) := by unfold segA; rw [if_pos h]
      have := hr (by omega) (by omega)
      split at this <;> omega
  intro y
  induction y with
  | zero => intro x h1 h2 h3; have : x = 0 := by omega
            subst this; exact Int.le_refl _
  | succ y ih =>
    intro x h1 h2 h3
    by_cases e : x = y + 1
    · subst e; exact Int.le_refl _
    · have h4 := ih x h1 (by omega) (by omega)
      have h5 := step (y + 1) (by omega) h3
      simp only [Nat.add_sub_cancel] at h5
      omega
theorem atOf_rising (n : Nat) (v : Valid k s pos crd (n : Int)) (p : Nat) (hp : p < n) (a b : Nat) (ha : segA k s pos p = (a : Int)) (hb : segA k s pos (p + 1) = (b : Int)) (hcb : whole k = false → b ≤ crd.length) (x y : Nat) (h1 : a ≤ x) (h2 : x ≤ y) (h3 : y < b) : atOf k crd (a : Int) (x : Int) ≤ atOf k crd (a : Int) (y : Int) := by
  unfold atOf
  cases hw : whole k with
  | true => simp only [if_true]; omega
  | false =>
    simp only [Bool.false_eq_true, if_false, Int.toNat_natCast]
    exact v.rising n hw p hp a b ha hb (hcb hw) y x h1 h2 h3
/-- What is found of p at a place: the first child there. -/
theorem find20 (n : Nat) (v : Valid k s pos crd (n : Int)) (hp' : pos.length ≤ 9223372036854775807) (p : Nat) (hp : p < n) (t : Int) (a b : Nat) (ha : segA k s pos p = (a : Int)) (hb : segA k s pos (p + 1) = (b : Int)) (hab : a ≤ b) (hbb : b ≤ 1048576) (hcb : whole k = false → b ≤ crd.length) :
    (∃ m : Nat, vr 20 0 [.t (lvT k s pz pos cz crd), .t (.int .i64 (n : Int)), .t (.int .i64 (p : Int)), .t (.int .i64 t)] e0 = some (.tup [.t (.int .i64 (m : Int)), .t (.bool true), .t (.int .i64 0)], e0) ∧ a ≤ m ∧ m < b ∧ atOf k crd (a : Int) (m : Int) = t ∧ ∀ m', a ≤ m' → m' < m → atOf k crd (a : Int) (m' : Int) < t) ∨
    (vr 20 0 [.t (lvT k s pz pos cz crd), .t (.int .i64 (n : Int)), .t (.int .i64 (p : Int)), .t (.int .i64 t)] e0 = some (.tup [.t (.int .i64 0), .t (.bool false), .t (.int .i64 0)], e0) ∧ ∀ m : Nat, a ≤ m → m < b → atOf k crd (a : Int) (m : Int) ≠ t) := by
  have hmany := v.many
  obtain ⟨e, h1, h2⟩ := ready30 (k := k) (s := s) (pz := pz) (cz := cz) (pos := pos) (crd := crd) (n : Int) (p : Int) hp' (by omega)
  have he : e = 0 := h2.2 ⟨v, by omega, by omega⟩
  subst he
  have J0 : ∀ (i : Int) (w : Nat), i = (w : Int) → w ≤ 2147483648 → J20_8 (a : Int) i true = some (.tup [.t (.int .i64 ((a + w : Nat) : Int)), .t (.bool true), .t (.int .i64 0)], e0) := by
    intro i w hi hw
    subst hi
    rw [J20_8_eq, RJ20_8, bNT, cf, wrap64 (by omega) (by omega), Int.natCast_add]
  have J1 : ∀ i : Int, J20_8 (a : Int) i false = some (.tup [.t (.int .i64 0), .t (.bool false), .t (.int .i64 0)], e0) := by
    intro i
    rw [J20_8_eq, RJ20_8, bNF, ct]
  rw [eq20, R20, h1, callK_some, asT_t, asI_int, endB_nil, decide_eq_true rfl, bNT, cf, segment31 n v p hp, callK_some]
  simp only [callK_some, asT_t, asI_int, asB_bool, asS_str, asL_list, asA_agg, consT_cons, endT_nil, asG_agg, asTup_tup, consV_cons, endV_nil, endB_nil, consB_cons, asArr_arr, asAv_av, asMp_map, asVar_var, isBuf_buf, isPtr_ptr, needC_t, ct, cf, bNT, bNF, bTA, bAT, bFA, bAF, bTO, bOT, bFO, bOF, dT, dF]
  rw [ha, hb, whole14]
  simp only [callK_some, asT_t, asI_int, asB_bool, asS_str, asL_list, asA_agg, consT_cons, endT_nil, asG_agg, asTup_tup, consV_cons, endV_nil, endB_nil, consB_cons, asArr_arr, asAv_av, asMp_map, asVar_var, isBuf_buf, isPtr_ptr, needC_t, ct, cf, bNT, bNF, bTA, bAT, bFA, bAF, bTO, bOT, bFO, bOF, dT, dF]
  cases hw : whole k with
  | true =>
    have hs : (b : Int) - (a : Int) = s := by
      rw [← ha, ← hb, segA_whole hw, segA_whole hw, Int.natCast_add, Int.add_mul]; omega
    have hv := v.s1
    simp only [callK_some, asT_t, asI_int, asB_bool, asS_str, asL_list, asA_agg, consT_cons, endT_nil, asG_agg, asTup_tup, consV_cons, endV_nil, endB_nil, consB_cons, asArr_arr, asAv_av, asMp_map, asVar_var, isBuf_buf, isPtr_ptr, needC_t, ct, cf, bNT, bNF, bTA, bAT, bFA, bAF, bTO, bOT, bFO, bOF, dT, dF]
    unfold atOf
    rw [hw]
    simp only [if_true]
    by_cases h0 : 0 ≤ t
    · rw [decide_eq_true h0, ct]
      by_cases hts : t < s
      · rw [decide_eq_true hts]
        left
        refine ⟨a + t.toNat, ?_, by omega, by omega, by omega, fun m' _ _ => by omega⟩
        exact J0 t t.toNat (by omega) (by omega)
      · rw [decide_eq_false hts, J1]
        exact .inr ⟨rfl, fun m h3 h4 => by omega⟩
    · rw [decide_eq_false h0, cf, J1]
      exact .inr ⟨rfl, fun m h3 h4 => by omega⟩
  | false =>
    have hbl := hcb hw
    simp only [callK_some, asT_t, asI_int, asB_bool, asS_str, asL_list, asA_agg, consT_cons, endT_nil, asG_agg, asTup_tup, consV_cons, endV_nil, endB_nil, consB_cons, asArr_arr, asAv_av, asMp_map, asVar_var, isBuf_buf, isPtr_ptr, needC_t, ct, cf, bNT, bNF, bTA, bAT, bFA, bAF, bTO, bOT, bFO, bOF, dT, dF]
    rw [cutI hab hbl]
    have hlen : ((crd.take b).drop a).length = b - a := by rw [List.length_drop, List.length_take]; omega
    have hpn : ∀ j, j < b - a → nth ((crd.take b).drop a) j = nth crd (a + j) := fun j hj => by
      rw [nth_drop (by rw [List.length_take]; omega), nth_take (by omega) (by omega)]
    obtain ⟨r, h3, h4, h5, h6⟩ := search37 cz ((crd.take b).drop a) t (by omega) (fun x y hx hy => by
      rw [hlen] at hy
      rw [hpn x (by omega), hpn y hy]
      exact v.rising n hw p hp a b ha hb hbl (a + y) (a + x) (by omega) (by omega) (by omega))
    rw [h3]
    simp only [callK_some, asT_t, asI_int, asB_bool, asS_str, asL_list, asA_agg, consT_cons, endT_nil, asG_agg, asTup_tup, consV_cons, endV_nil, endB_nil, consB_cons, asArr_arr, asAv_av, asMp_map, asVar_var, isBuf_buf, isPtr_ptr, needC_t, ct, cf, bNT, bNF, bTA, bAT, bFA, bAF, bTO, bOT, bFO, bOF, dT, dF]
    rw [hlen] at h4 h6 ⊢
    have fin : ∀ q : Option Res, q = J20_8 (a : Int) (r : Int) (decide (r < b - a) && decide (nth ((crd.take b).drop a) r = t)) → True := fun _ _ => trivial
    have both : ∀ x : Option Res, (bif decide (0 ≤ t) then x else x) = x := fun x => by cases decide (0 ≤ t) <;> rfl
    rw [both]
    unfold atOf
    rw [hw]
    simp only [Bool.false_eq_true, if_false, Int.toNat_natCast]
    by_cases hf : r < b - a ∧ nth ((crd.take b).drop a) r = t
    · rw [decide_eq_true hf.1, decide_eq_true hf.2, bTA]
      left
      refine ⟨a + r, J0 _ r rfl (by omega), by omega, by omega, ?_, fun m' h7 h8 => ?_⟩
      · rw [← hpn r hf.1]; exact hf.2
      · have := h5 (m' - a) (by omega)
        rw [hpn _ (by omega)] at this
        have e1 : a + (m' - a) = m' := by omega
        rw [e1] at this
        exact this
    · have : (decide (r < b - a) && decide (nth ((crd.take b).drop a) r = t)) = false := by
        cases h9 : (decide (r < b - a) && decide (nth ((crd.take b).drop a) r = t)) with
        | false => rfl
        | true => simp only [Bool.and_eq_true, decide_eq_true_eq] at h9; exact absurd h9 hf
      rw [this, J1]
      refine .inr ⟨rfl, fun m h7 h8 => ?_⟩
      have e1 : a + (m - a) = m := by omega
      rcases Nat.lt_or_ge (m - a) r with h9 | h9
      · have := h5 (m - a) h9
        rw [hpn _ (by omega), e1] at this
        omega
      · have h10 := h6 (m - a) h9 (by omega)
        rw [hpn _ (by omega), e1] at h10
        intro h11
        have hr : r < b - a := by omega
        have h12 := h6 r (Nat.le_refl _) hr
        have h13 := v.rising n hw p hp a b ha hb hbl m (a + r) (by omega) (by omega) (by omega)
        rw [hpn r hr] at h12
        exact hf ⟨hr, by rw [hpn r hr]; omega⟩
/-- Whose a child is, and where. -/
theorem parent22 (n : Nat) (v : Valid k s pos crd (n : Int)) (hp' : pos.length ≤ 9223372036854775807) (p : Nat) (hp : p < n) (m : Nat) (a b : Nat) (ha : segA k s pos p = (a : Int)) (hb : segA k s pos (p + 1) = (b : Int)) (hbb : b ≤ 1048576) (hcb : whole k = false → b ≤ crd.length) (h1 : a ≤ m) (h2 : m < b) :
    vr 22 0 [.t (lvT k s pz pos cz crd), .t (.int .i64 (n : Int)), .t (.int .i64 (m : Int))] e0 = some (.tup [.t (.int .i64 (p : Int)), .t (.int .i64 (atOf k crd (a : Int) (m : Int))), .t (.int .i64 0)], e0) := by
  have hmany := v.many
  have ha1 := v.a1
  have hs0 := v.s0
  have hs1 := v.s1
  obtain ⟨e, g1, g2, _⟩ := check19 (k := k) (s := s) (pz := pz) (cz := cz) (pos := pos) (crd := crd) (n : Int) hp' (by omega)
  have he : e = 0 := g2.2 v
  subst he
  have hlt : (m : Int) < belowN k s crd (n : Int) := by
    have := v.mono n n (p + 1) (by omega) (Nat.le_refl _)
    rw [(v.seg n).2.1, hb] at this
    omega
  rw [eq22, R22, g1, callK_some, asT_t, asI_int, endB_nil, decide_eq_true rfl, bNT, cf, decide_eq_false (by omega : ¬ (m : Int) < 0), cf, below29 n (by omega) hs0 hs1, callK_some, asT_t, asI_int, endB_nil, decide_eq_false (by omega : ¬ belowN k s crd (n : Int) ≤ (m : Int)), cf, whole14, callK_some, asT_t, asB_bool, endB_nil]
  unfold atOf
  cases hw : whole k with
  | true =>
    rw [segA_whole hw] at ha hb
    have hs : s ≠ 0 := by
      intro h; subst h; omega
    have hdiv : (m : Int) / s = (p : Int) := by
      have e1 : (m : Int) = (p : Int) * s + ((m : Int) - (p : Int) * s) := by omega
      rw [Int.natCast_add, Int.add_mul] at hb
      have hr0 : 0 ≤ (m : Int) - (p : Int) * s := by omega
      have hr1 : (m : Int) - (p : Int) * s < s := by omega
      rw [e1, Int.add_comm, Int.add_mul_ediv_right _ _ hs, Int.ediv_eq_zero_of_lt hr0 hr1]
      omega
    have hmod : (m : Int) % s = (m : Int) - (a : Int) := by
      have := Int.emod_add_mul_ediv (m : Int) s
      rw [hdiv, Int.mul_comm] at this
      omega
    have e1 : Int.tdiv (m : Int) s = (p : Int) := by rw [Int.tdiv_eq_ediv_of_nonneg (by omega), hdiv]
    have e2 : Int.tmod (m : Int) s = (m : Int) - (a : Int) := by rw [Int.tmod_eq_emod_of_nonneg (by omega), hmod]
    rw [ct, decide_eq_false hs, bNF, needC_t, needC_t, e1, e2, if_pos rfl, wrap64 (by omega) (by omega)]
  | false =>
    have hbl := hcb hw
    rw [cf]
    simp only [Bool.false_eq_true, if_false, Int.toNat_natCast]
    by_cases h3 : k = 3
    · subst h3
      have e1 : (p : Int) = (a : Int) := ha
      have e2 : ((p + 1 : Nat) : Int) = (b : Int) := hb
      rw [decide_eq_true rfl, ct, needNat, getI (by omega)]
      have : m = p := by omega
      rw [this]
    · have hk : k = 1 ∨ k = 2 := by
        rcases v.form with ⟨h, _⟩ | ⟨h, _⟩ | ⟨h, _⟩
        · exfalso; unfold whole at hw; rcases h with rfl | ⟨rfl, _⟩ <;> simp at hw
        · exact absurd h h3
        · exact h
      rcases v.form with ⟨h, _⟩ | ⟨h, _⟩ | ⟨_, f1, f2, f3, f4⟩
      · omega
      · omega
      · have e1 : nth pos p = (a : Int) := by rw [← ha]; unfold segA; rw [if_pos hk]
        have e2 : nth pos (p + 1) = (b : Int) := by rw [← hb]; unfold segA; rw [if_pos hk]
        obtain ⟨r, bb, q1, q2, q3, q4⟩ := searchF38 pz pos (m : Int) (by omega) (fun x y hx hy => sorted_le f4 y x hx hy)
        have hr : r = p + 1 := by
          rcases Nat.lt_trichotomy r (p + 1) with h | h | h
          · have h5 := q4 p (by omega) (by omega); omega
          · exact h
          · have h5 := q3 (p + 1) (by omega); omega
        rw [decide_eq_false h3, cf, q1, callK_some]
        simp only [callK_some, asT_t, asI_int, asB_bool, asS_str, asL_list, asA_agg, consT_cons, endT_nil, asG_agg, asTup_tup, consV_cons, endV_nil, endB_nil, consB_cons, asArr_arr, asAv_av, asMp_map, asVar_var, isBuf_buf, isPtr_ptr, needC_t, ct, cf, bNT, bNF, bTA, bAT, bFA, bAF, bTO, bOT, bFO, bOF, dT, dF]
        rw [needNat, getI (by omega), hr, wrap64 (by omega) (by omega)]
        congr 6
        omega
theorem parent22_none (n : Nat) (v : Valid k s pos crd (n : Int)) (hp' : pos.length ≤ 9223372036854775807) : vr 22 0 [.t (lvT k s pz pos cz crd), .t (.int .i64 (n : Int)), .t (.int .i64 (belowN k s crd (n : Int)))] e0 = some (.tup [.t (.int .i64 0), .t (.int .i64 0), .t (.int .i64 5)], e0) := by
  have hmany := v.many
  have ha1 := v.a1
  have hb0 := v.below0
  obtain ⟨e, g1, g2, _⟩ := check19 (k := k) (s := s) (pz := pz) (cz := cz) (pos := pos) (crd := crd) (n : Int) hp' (by omega)
  have he : e = 0 := g2.2 v
  subst he
  rw [eq22, R22, g1, callK_some, asT_t, asI_int, endB_nil, decide_eq_true rfl, bNT, cf, decide_eq_false (by omega : ¬ belowN k s crd (n : Int) < 0), cf, below29 n (by omega) v.s0 v.s1, callK_some, asT_t, asI_int, endB_nil, decide_eq_true (Int.le_refl _), ct]
end
end Go.Proofs.Ytejfkiohnoiagaa.VM
end

section
namespace Go.Proofs.Ytejfkiohnoiagaa.VM
set_option linter.unusedSectionVars false
open Go AM
/-- Lists of numbers, whatever their being nil. -/
def IsG (r : List T) (gs : List (List Int)) : Prop := All2 (fun t g => ∃ z, t = .list 1 z (ints g)) r gs
def sums : Nat → List (List Int) → List Int
  | _, [] => []
  | c, g :: gs => ((c + g.length : Nat) : Int) :: sums (c + g.length) gs
theorem sums_len : ∀ (gs : List (List Int)) (c : Nat), (sums c gs).length = gs.length
  | [], c => rfl
  | g :: gs, c => by unfold sums; simp [sums_len gs]
def total : List (List Int) → Nat
  | [] => 0
  | g :: gs => g.length + total gs
theorem total_flatten : ∀ gs : List (List Int), gs.flatten.length = total gs
  | [] => rfl
  | g :: gs => by rw [List.flatten_cons, List.length_append, total_flatten gs]; rfl
def mkPos (k : Int) (gs : List (List Int)) : List Int := if k = 1 ∨ k = 2 then 0 :: sums 0 gs else []
def mkCrd (k : Int) (gs : List (List Int)) : List Int := if whole k = true then [] else gs.flatten
def MakeOK (k s : Int) (gs : List (List Int)) : Prop := (k = 3 → ∀ g ∈ gs, g.length = 1) ∧ Valid k s (mkPos k gs) (mkCrd k gs) (gs.length : Int)
abbrev lv0 : T := .agg [.int .i64 0, .int .i64 0, .list 1 false [], .list 1 false []]
/-- What comes behind the loop. -/
theorem make_fin (k s : Int) (pz cz : Bool) (pos crd : List Int) (n : Int) (hp : pos.length ≤ 9223372036854775807) (hc : crd.length ≤ 9223372036854775806) :
    ∃ q : Option Res, (callK (vr 19 0 [(.t (lvT k s pz pos cz crd)), (.t (.int .i64 n))] ⟨[], []⟩) fun v_4 b_5 =>
      asT v_4 fun x_6 => asI .i64 x_6 fun x_7 => endB b_5 <|
      (bif (!decide (x_7 = 0)) then some ((.tup [(.t lv0), (.t (.int .i64 x_7))]), (⟨[], []⟩ : St)) else some ((.tup [(.t (lvT k s pz pos cz crd)), (.t (.int .i64 0))]), ⟨[], []⟩))) = q ∧
      ((∃ e : Int, e ≠ 0 ∧ q = some (.tup [.t lv0, .t (.int .i64 e)], e0) ∧ ¬ Valid k s pos crd n) ∨ (q = some (.tup [.t (lvT k s pz pos cz crd), .t (.int .i64 0)], e0) ∧ Valid k s pos crd n)) := by
  obtain ⟨e, h1, h2, _⟩ := check19 (k := k) (s := s) (pz := pz) (cz := cz) (pos := pos) (crd := crd) n hp hc
  rw [h1, callK_some, asT_t, asI_int, endB_nil]
  by_cases he : e = 0
  · rw [decide_eq_true he, bNT, cf]
    exact ⟨_, rfl, .inr ⟨rfl, h2.1 he⟩⟩
  · rw [decide_eq_false he, bNF, ct]
    exact ⟨_, rfl, .inl ⟨e, he, rfl, fun h => he (h2.2 h)⟩⟩
theorem L10_spec (k s : Int) (gz tz : Bool) (r0 r : List T) (gs : List (List Int)) (hr : IsG r gs) (m80 m81 : Int) (m8z : Bool) (m82 : List T) (m83z : Bool) (m83 : List T) : ∀ (m i : Nat) (pz : Bool) (pos : List Int) (cz : Bool) (crd : List Int), m + i = gs.length → gs.length ≤ 100000 → pos.length ≤ 100001 + i → crd.length + total (gs.drop i) ≤ 2000000 →
    (k = 3 ∧ (∃ g ∈ gs.drop i, g.length ≠ 1) ∧ L10_10 k gz r0 tz r (r.length : Int) (i : Int) m80 m81 m8z m82 m83z m83 k s pz (ints pos) cz (ints crd) = some (.tup [.t lv0, .t (.int .i64 1)], e0)) ∨
    ((k = 3 → ∀ g ∈ gs.drop i, g.length = 1) ∧ ∃ pz' cz', L10_10 k gz r0 tz r (r.length : Int) (i : Int) m80 m81 m8z m82 m83z m83 k s pz (ints pos) cz (ints crd) =
      (callK (vr 19 0 [(.t (lvT k s pz' (pos ++ (if pz = true then sums crd.length (gs.drop i) else [])) cz' (crd ++ (gs.drop i).flatten))), (.t (.int .i64 (r0.length : Int)))] ⟨[], []⟩) fun v_4 b_5 =>
      asT v_4 fun x_6 => asI .i64 x_6 fun x_7 => endB b_5 <|
      (bif (!decide (x_7 = 0)) then some ((.tup [(.t lv0), (.t (.int .i64 x_7))]), (⟨[], []⟩ : St)) else some ((.tup [(.t (lvT k s pz' (pos ++ (if pz = true then sums crd.length (gs.drop i) else [])) cz' (crd ++ (gs.drop i).flatten))), (.t (.int .i64 0))]), ⟨[], []⟩))))
  | 0, i, pz, pos, cz, crd, h, hg, hp, hc => by
    have hl := hr.length
    have d : decide ((i : Int) < (r.length : Int)) = false := decide_eq_false (by omega)
    have hd : gs.drop i = [] := List.drop_of_length_le (by omega)
    right
    rw [hd]
    refine ⟨fun _ g hg => by simp at hg, pz, cz, ?_⟩
    rw [L10_10_eq, RL10_10, d, cf]
    have e1 : pos ++ (if pz = true then sums crd.length [] else []) = pos := by cases pz <;> simp [sums]
    have e2 : crd ++ ([] : List (List Int)).flatten = crd := by simp
    rw [e1, e2]
  | m + 1, i, pz, pos, cz, crd, h, hg, hp, hc => by
    have hl := hr.length
    have d : decide ((i : Int) < (r.length : Int)) = true := decide_eq_true (by omega)
    obtain ⟨g, hgi, z, hz⟩ := hr.get (List.getElem?_eq_getElem (by omega : i < r.length))
    have hri : r[i]? = some (.list 1 z (ints g)) := by rw [List.getElem?_eq_getElem (by omega), hz]
    have hd : gs.drop i = g :: gs.drop (i + 1) := by
      obtain ⟨h1, h2⟩ := List.getElem?_eq_some_iff.1 hgi
      rw [List.drop_eq_getElem_cons h1, h2]
    rw [hd] at hc ⊢
    unfold total at hc
    have hcat : ints crd ++ ints g = ints (crd ++ g) := by simp
    have n1 : (decide (((ints crd).length + (ints g).length) * (8 + 1) ≤ 70368744177664) && decide (8 ≤ 1048576)) = true := by rw [decide_eq_true (by rw [ints_len, ints_len]; omega)]; rfl
    have n2 : (decide (((ints pos).length + 1) * (8 + 1) ≤ 70368744177664) && decide (8 ≤ 1048576)) = true := by rw [decide_eq_true (by rw [ints_len]; omega)]; rfl
    -- one group more
    have go : ∀ X : Option Res, (needC (decide (((ints crd).length + (ints g).length) * (8 + 1) ≤ 70368744177664) && decide (8 ≤ 1048576)) fun _ =>
        (bif (!(!pz)) then
          needC (decide (((ints pos).length + 1) * (8 + 1) ≤ 70368744177664) && decide (8 ≤ 1048576)) fun _ =>
          L10_10 k gz r0 tz r (r.length : Int) (IntKind.i64.wrap ((i : Int) + 1)) m80 m81 m8z m82 m83z m83 k s (pz || true) (ints pos ++ ([(.int .i64 (((ints crd ++ ints g)).length : Int))] : List T)) (cz || (!(ints g).isEmpty)) (ints crd ++ ints g)
        else
          L10_10 k gz r0 tz r (r.length : Int) (IntKind.i64.wrap ((i : Int) + 1)) m80 m81 m8z m82 m83z m83 k s pz (ints pos) (cz || (!(ints g).isEmpty)) (ints crd ++ ints g))) = X →
        (k = 3 ∧ (∃ g' ∈ gs.drop (i + 1), g'.length ≠ 1) ∧ X = some (.tup [.t lv0, .t (.int .i64 1)], e0)) ∨
        ((k = 3 → ∀ g' ∈ gs.drop (i + 1), g'.length = 1) ∧ ∃ pz' cz', X =
          (callK (vr 19 0 [(.t (lvT k s pz' (pos ++ (if pz = true then sums crd.length (g :: gs.drop (i + 1)) else [])) cz' (crd ++ (g :: gs.drop (i + 1)).flatten))), (.t (.int .i64 (r0.length : Int)))] ⟨[], []⟩) fun v_4 b_5 =>
          asT v_4 fun x_6 => asI .i64 x_6 fun x_7 => endB b_5 <|
          (bif (!decide (x_7 = 0)) then some ((.tup [(.t lv0), (.t (.int .i64 x_7))]), (⟨[], []⟩ : St)) else some ((.tup [(.t (lvT k s pz' (pos ++ (if pz = true then sums crd.length (g :: gs.drop (i + 1)) else [])) cz' (crd ++ (g :: gs.drop (i + 1)).flatten))), (.t (.int .i64 0))]), ⟨[], []⟩)))) := by
      intro X hX
      rw [needC_true n1, natWrap (by omega), hcat] at hX
      have e2 : crd ++ (g :: gs.drop (i + 1)).flatten = crd ++ g ++ (gs.drop (i + 1)).flatten := by rw [List.flatten_cons, List.append_assoc]
      cases pz with
      | true =>
        have e3 : ints pos ++ ([(.int .i64 ((ints (crd ++ g)).length : Int))] : List T) = ints (pos ++ [((crd.length + g.length : Nat) : Int)]) := by
          rw [ints_len, List.length_append]; simp
        have e1 : pos ++ (if true = true then sums crd.length (g :: gs.drop (i + 1)) else []) = pos ++ [((crd.length + g.length : Nat) : Int)] ++ (if true = true then sums (crd ++ g).length (gs.drop (i + 1)) else []) := by
          simp only [if_true, sums, List.length_append, List.append_assoc, List.singleton_append]
        rw [bNT, bNF, ct, needC_true n2, e3, bTO] at hX
        rw [e1, e2, ← hX]
        exact L10_spec k s gz tz r0 r gs hr m80 m81 m8z m82 m83z m83 m (i + 1) true _ _ (crd ++ g) (by omega) hg (by rw [List.length_append]; simp; omega) (by rw [List.length_append]; omega)
      | false =>
        rw [bNF, bNT, cf] at hX
        rw [e2, ← hX]
        exact L10_spec k s gz tz r0 r gs hr m80 m81 m8z m82 m83z m83 m (i + 1) false pos _ (crd ++ g) (by omega) hg (by omega) (by rw [List.length_append]; omega)
    rw [L10_10_eq, RL10_10, d, ct, needNat, Int.toNat_natCast, getT_at hri, asL_list]
    by_cases h3 : k = 3
    · rw [decide_eq_true h3, ct, ints_len g]
      by_cases h1 : (g.length : Int) = 1
      · rw [decide_eq_true h1, bNT, cf]
        rcases go _ rfl with ⟨a1, ⟨g', a2, a3⟩, a4⟩ | ⟨a1, pz', cz', a2⟩
        · exact .inl ⟨a1, ⟨g', List.mem_cons_of_mem _ a2, a3⟩, by rw [← ints_len g]; exact a4⟩
        · refine .inr ⟨fun hk g' hg' => ?_, pz', cz', by rw [← ints_len g]; exact a2⟩
          rcases List.mem_cons.1 hg' with rfl | hg'
          · omega
          · exact a1 hk g' hg'
      · rw [decide_eq_false h1, bNF, ct]
        exact .inl ⟨h3, ⟨g, by simp, by omega⟩, rfl⟩
    · rw [decide_eq_false h3, cf]
      rcases go _ rfl with ⟨a1, _⟩ | ⟨a1, pz', cz', a2⟩
      · exact absurd a1 h3
      · exact .inr ⟨fun hk => absurd hk h3, pz', cz', a2⟩
theorem flatten_nil : ∀ n : Nat, (List.replicate n ([] : List Int)).flatten = []
  | 0 => rfl
  | n + 1 => by rw [List.replicate_succ, List.flatten_cons, flatten_nil n]; rfl
theorem total_nil : ∀ n : Nat, total (List.replicate n []) = 0
  | 0 => rfl
  | n + 1 => by rw [List.replicate_succ]; unfold total; rw [total_nil n]; rfl
theorem isG_nil (n : Nat) : IsG (List.replicate n (.list 1 false [])) (List.replicate n []) := All2.replicate ⟨false, rfl⟩ n
/-- level.Make. -/
theorem make10 (k s : Int) (gz : Bool) (r : List T) (gs : List (List Int)) (hr : IsG r gs) (hn : gs.length ≤ 100000) (ht : total gs ≤ 2000000) :
    (∃ e : Int, e ≠ 0 ∧ vr 10 0 [.t (.int .i64 k), .t (.int .i64 s), .t (.list 1 gz r)] e0 = some (.tup [.t lv0, .t (.int .i64 e)], e0) ∧ ¬ MakeOK k s gs) ∨
    (∃ pz cz, vr 10 0 [.t (.int .i64 k), .t (.int .i64 s), .t (.list 1 gz r)] e0 = some (.tup [.t (lvT k s pz (mkPos k gs) cz (mkCrd k gs)), .t (.int .i64 0)], e0) ∧ MakeOK k s gs) := by
  have hl := hr.length
  have fin : ∀ (pz : Bool) (pos : List Int) (gz2 : Bool) (r2 : List T) (gs2 : List (List Int)), IsG r2 gs2 → gs2.length = gs.length → total gs2 ≤ 2000000 → pos.length ≤ 1 → (k = 3 → gs2 = gs) → pos ++ (if pz = true then sums 0 gs2 else []) = mkPos k gs → gs2.flatten = mkCrd k gs →
      ∀ X : Option Res, J10_9 k gz2 r2 0 0 false [] false [] k s pz (ints pos) false (ints []) = X →
      (∃ e : Int, e ≠ 0 ∧ X = some (.tup [.t lv0, .t (.int .i64 e)], e0) ∧ ¬ MakeOK k s gs) ∨ (∃ pz cz, X = some (.tup [.t (lvT k s pz (mkPos k gs) cz (mkCrd k gs)), .t (.int .i64 0)], e0) ∧ MakeOK k s gs) := by
    intro pz pos gz2 r2 gs2 hr2 hl2 ht2 hpos h3 hp hc X hX
    have hlen := hr2.length
    rw [J10_9_eq, RJ10_9] at hX
    have e : (0 : Int) = ((0 : Nat) : Int) := rfl
    have hlp : (mkPos k gs).length ≤ 200000 := by
      rw [← hp, List.length_append]
      cases pz with
      | true => simp only [if_true, sums_len]; omega
      | false => simp; omega
    have hlc : (mkCrd k gs).length ≤ 2000000 := by rw [← hc, total_flatten]; exact ht2
    rcases L10_spec k s gz2 gz2 r2 r2 gs2 hr2 0 0 false [] false [] gs2.length 0 pz pos false [] (by omega) (by omega) (by omega) (by simpa using ht2) with ⟨a1, ⟨g, a2, a3⟩, a4⟩ | ⟨a1, pz', cz', a2⟩
    · rw [← e] at a4
      left
      refine ⟨1, by omega, by rw [← hX]; exact a4, fun h => ?_⟩
      have := h.1 a1 g (by rw [← h3 a1]; simpa using a2)
      exact a3 this
    · rw [← e, List.drop_zero, List.length_nil, hp, List.nil_append, hc] at a2
      obtain ⟨q, b1, b2⟩ := make_fin k s pz' cz' (mkPos k gs) (mkCrd k gs) (r2.length : Int) (by omega) (by omega)
      rw [b1] at a2
      have hXq : X = q := by rw [← hX]; exact a2
      have hlr : (r2.length : Int) = (gs.length : Int) := by omega
      rw [hlr] at b2
      rw [hXq]
      rcases b2 with ⟨e1, c1, c2, c3⟩ | ⟨c1, c2⟩
      · exact .inl ⟨e1, c1, c2, fun h => c3 h.2⟩
      · refine .inr ⟨pz', cz', c1, fun hk g hg => ?_, c2⟩
        exact a1 hk g (by rw [h3 hk]; simpa using hg)
  rw [eq10, R10]
  have wz : whole k = true → mkCrd k gs = [] := fun h => by unfold mkCrd; rw [if_pos h]
  have pz0 : ¬ (k = 1 ∨ k = 2) → mkPos k gs = [] := fun h => by unfold mkPos; rw [if_neg h]
  by_cases h1 : k = 1
  · rw [decide_eq_true h1, ct]
    refine fin true [0] gz r gs hr rfl ht (by simp) (fun _ => rfl) ?_ ?_ _ rfl
    · show [0] ++ sums 0 gs = mkPos k gs
      unfold mkPos; rw [if_pos (Or.inl h1 : k = 1 ∨ k = 2)]; rfl
    · unfold mkCrd; subst h1; rfl
  rw [decide_eq_false h1, cf]
  by_cases h2 : k = 2
  · rw [decide_eq_true h2, ct]
    refine fin true [0] gz r gs hr rfl ht (by simp) (fun _ => rfl) ?_ ?_ _ rfl
    · show [0] ++ sums 0 gs = mkPos k gs
      unfold mkPos; rw [if_pos (Or.inr h2 : k = 1 ∨ k = 2)]; rfl
    · unfold mkCrd; subst h2; rfl
  rw [decide_eq_false h2, cf]
  have n1 : (decide (0 ≤ (r.length : Int)) && decide ((r.length : Int) ≤ (r.length : Int)) && decide ((r.length : Int) * (24 + 1) ≤ 70368744177664)) = true := by
    rw [decide_eq_true (by omega : 0 ≤ (r.length : Int)), decide_eq_true (Int.le_refl _), decide_eq_true (by omega : (r.length : Int) * (24 + 1) ≤ 70368744177664)]; rfl
  have whl : whole k = true → (J10_9 k true (List.replicate ((r.length : Int)).toNat (.list 1 false [])) 0 0 false [] false [] k s false [] false [] : Option Res) = J10_9 k true (List.replicate gs.length (.list 1 false [])) 0 0 false [] false [] k s false (ints []) false (ints []) := fun _ => by
    rw [Int.toNat_natCast, hl]; rfl
  by_cases h0 : k = 0
  · rw [decide_eq_true h0, ct, needC_true n1, whl (by subst h0; rfl)]
    refine fin false [] true _ (List.replicate gs.length []) (isG_nil _) (by simp) (by rw [total_nil]; omega) (by simp) (fun h => by omega) ?_ ?_ _ rfl
    · rw [pz0 (by omega)]; rfl
    · rw [wz (by subst h0; rfl), flatten_nil]
  rw [decide_eq_false h0, cf]
  by_cases h4 : k = 4
  · rw [decide_eq_true h4, ct, needC_true n1, whl (by subst h4; rfl)]
    refine fin false [] true _ (List.replicate gs.length []) (isG_nil _) (by simp) (by rw [total_nil]; omega) (by simp) (fun h => by omega) ?_ ?_ _ rfl
    · rw [pz0 (by omega)]; rfl
    · rw [wz (by subst h4; rfl), flatten_nil]
  rw [decide_eq_false h4, cf]
  refine fin false [] gz r gs hr rfl ht (by simp) (fun _ => rfl) ?_ ?_ _ rfl
  · rw [pz0 (by omega)]; rfl
  · unfold mkCrd whole
    rw [decide_eq_false h0, decide_eq_false h4, bFO, if_neg (by simp)]
theorem live_valid : MakeOK 1 4 [[1, 3], [], [0]] := by
  refine ⟨fun h => by omega, ?_⟩
  have e1 : mkPos 1 [[1, 3], [], [0]] = [0, 2, 2, 3] := rfl
  have e2 : mkCrd 1 [[1, 3], [], [0]] = [1, 3, 0] := rfl
  rw [e1, e2]
  refine ⟨by decide, by decide, by decide, by decide, .inr (.inr ⟨.inl rfl, by decide, rfl, rfl, ?_⟩), by decide, by decide, ?_, fun _ => ?_⟩
  · intro j h1 h2
    have h3 : j < 4 := h2
    match j, h1, h3 with
    | 1, _, _ => decide
    | 2, _, _ => decide
    | 3, _, _ => decide
  · intro c hc
    simp only [List.mem_cons, List.not_mem_nil, or_false] at hc
    omega
  · intro p hp i h1 h2
    have h3 : p < 3 := hp
    match p, h3 with
    | 0, _ =>
      have a1 : nth [0, 2, 2, 3] 0 = 0 := rfl
      have a2 : nth [0, 2, 2, 3] (0 + 1) = 2 := rfl
      rw [a1] at h1
      rw [a2] at h2
      have : i = 1 := by omega
      subst this
      decide
    | 1, _ =>
      have a1 : nth [0, 2, 2, 3] 1 = 2 := rfl
      have a2 : nth [0, 2, 2, 3] (1 + 1) = 2 := rfl
      rw [a1] at h1
      rw [a2] at h2
      omega
    | 2, _ =>
      have a1 : nth [0, 2, 2, 3] 2 = 2 := rfl
      have a2 : nth [0, 2, 2, 3] (2 + 1) = 3 := rfl
      rw [a1] at h1
      rw [a2] at h2
      omega
theorem live9 : vr 9 0 [] e0 = some (.t (.bool true), e0) := by
  have hg : IsG [(.list 1 true [(.int .i64 1), (.int .i64 3)]), (.list 1 false []), (.list 1 true [(.int .i64 0)])] [[1, 3], [], [0]] := .cons ⟨true, rfl⟩ (.cons ⟨false, rfl⟩ (.cons ⟨true, rfl⟩ .nil))
  rw [eq9, R9]
  rcases make10 1 4 true _ _ hg (by decide) (by decide) with ⟨e, _, _, h⟩ | ⟨pz, cz, h1, h2⟩
  · exact absurd live_valid h
  · have e1 : mkPos 1 [[1, 3], [], [0]] = [0, 2, 2, 3] := rfl
    have e2 : mkCrd 1 [[1, 3], [], [0]] = [1, 3, 0] := rfl
    have hv := h2.2
    rw [e1, e2] at h1 hv
    have hb := below13 (pz := pz) (cz := cz) 3 hv (by decide)
    have hbn : belowN 1 4 [1, 3, 0] ((3 : Nat) : Int) = 3 := rfl
    rw [hbn] at hb
    have q1 := equal16 pz true [0, 2, 2, 3] [0, 2, 2, 3] (by decide)
    have q2 := equal16 cz true [1, 3, 0] [1, 3, 0] (by decide)
    rw [decide_eq_true rfl] at q1 q2
    rw [h1, callK_some]
    simp only [callK_some, asT_t, asI_int, asB_bool, asS_str, asL_list, asA_agg, consT_cons, endT_nil, asG_agg, asTup_tup, consV_cons, endV_nil, endB_nil, consB_cons, asArr_arr, asAv_av, asMp_map, asVar_var, isBuf_buf, isPtr_ptr, needC_t, ct, cf, bNT, bNF, bTA, bAT, bFA, bAF, bTO, bOT, bFO, bOF, dT, dF]
    refine Eq.trans (congrArg (fun q => callK q _) hb) ?_
    rw [callK_some]
    simp only [callK_some, asT_t, asI_int, asB_bool, asS_str, asL_list, asA_agg, consT_cons, endT_nil, asG_agg, asTup_tup, consV_cons, endV_nil, endB_nil, consB_cons, asArr_arr, asAv_av, asMp_map, asVar_var, isBuf_buf, isPtr_ptr, needC_t, ct, cf, bNT, bNF, bTA, bAT, bFA, bAF, bTO, bOT, bFO, bOF, dT, dF]
    refine Eq.trans (congrArg (fun q => callK q _) q1) ?_
    rw [callK_some]
    simp only [callK_some, asT_t, asI_int, asB_bool, asS_str, asL_list, asA_agg, consT_cons, endT_nil, asG_agg, asTup_tup, consV_cons, endV_nil, endB_nil, consB_cons, asArr_arr, asAv_av, asMp_map, asVar_var, isBuf_buf, isPtr_ptr, needC_t, ct, cf, bNT, bNF, bTA, bAT, bFA, bAF, bTO, bOT, bFO, bOF, dT, dF]
    refine Eq.trans (congrArg (fun q => callK q _) q2) ?_
    rw [callK_some]
    simp only [callK_some, asT_t, asI_int, asB_bool, asS_str, asL_list, asA_agg, consT_cons, endT_nil, asG_agg, asTup_tup, consV_cons, endV_nil, endB_nil, consB_cons, asArr_arr, asAv_av, asMp_map, asVar_var, isBuf_buf, isPtr_ptr, needC_t, ct, cf, bNT, bNF, bTA, bAT, bFA, bAF, bTO, bOT, bFO, bOF, dT, dF]
end Go.Proofs.Ytejfkiohnoiagaa.VM
end

section
namespace Go.Proofs.Ytejfkiohnoiagaa.VM
set_option linter.unusedSectionVars false
open Go AM
/-- A level, as it is handed over. -/
abbrev lvTy : List Ty1 := [.int .i64, .int .i64, .list [.int .i64] false, .list [.int .i64] false]
theorem ints_of : ∀ l : List T, (∀ y ∈ l, ∃ ts, y = packT false ts ∧ fits [.int .i64] ts) → ∃ g : List Int, l = ints g
  | [], _ => ⟨[], rfl⟩
  | y :: l, h => by
    obtain ⟨g, rfl⟩ := ints_of l fun y hy => h y (List.mem_cons_of_mem _ hy)
    obtain ⟨ts, rfl, h6⟩ := h y (by simp)
    unfold fits at h6
    obtain ⟨a, r1, rfl, ha, h6⟩ := h6
    unfold fits at h6
    subst h6
    unfold fit1 at ha
    obtain ⟨n, rfl, _⟩ := ha
    exact ⟨n :: g, rfl⟩
theorem level_of {x : T} (h : FitT lvTy true x) : ∃ k s pz pos cz crd, x = lvT k s pz pos cz crd := by
  obtain ⟨ts, rfl, h⟩ := h
  unfold fits at h
  obtain ⟨a, r1, rfl, ha, h⟩ := h
  unfold fits at h
  obtain ⟨b, r2, rfl, hb, h⟩ := h
  unfold fits at h
  obtain ⟨c, r3, rfl, hc, h⟩ := h
  unfold fits at h
  obtain ⟨d, r4, rfl, hd, h⟩ := h
  unfold fits at h
  subst h
  unfold fit1 at ha hb hc hd
  obtain ⟨k, rfl, _⟩ := ha
  obtain ⟨s, rfl, _⟩ := hb
  obtain ⟨pz, l1, rfl, _, _, h1⟩ := hc
  obtain ⟨cz, l2, rfl, _, _, h2⟩ := hd
  obtain ⟨pos, rfl⟩ := ints_of l1 h1
  obtain ⟨crd, rfl⟩ := ints_of l2 h2
  exact ⟨k, s, pz, pos, cz, crd, rfl⟩
/-- A set of numbers, as a map. -/
abbrev mapOf (ks : List Int) : List (T × T) := ks.map fun x => (.int .i64 x, .bool true)
theorem keyT_int (x k : Int) : keyT (.int .i64 x) (.int .i64 k) = some (decide (x = k)) := rfl
theorem look_map : ∀ (ks : List Int) (x : Int), lookT (mapOf ks) (.int .i64 x) = some (if x ∈ ks then some (T.bool true) else none)
  | [], x => rfl
  | k :: ks, x => by
    show (match keyT (.int .i64 x) (.int .i64 k) with | some true => some (some (T.bool true)) | some false => lookT (mapOf ks) (.int .i64 x) | none => none) = _
    rw [keyT_int]
    by_cases h : x = k
    · rw [decide_eq_true h, if_pos (by simp [h])]
    · rw [decide_eq_false h]
      show lookT (mapOf ks) (.int .i64 x) = _
      rw [look_map ks x]
      simp [h]
theorem put_map : ∀ (ks : List Int) (x : Int), putT (mapOf ks) (.int .i64 x) (.bool true) = mapOf (if x ∈ ks then ks else ks ++ [x])
  | [], x => rfl
  | k :: ks, x => by
    show (match keyT (.int .i64 x) (.int .i64 k) with | some true => (T.int .i64 x, T.bool true) :: mapOf ks | _ => (T.int .i64 k, T.bool true) :: putT (mapOf ks) (.int .i64 x) (.bool true)) = _
    rw [keyT_int]
    by_cases h : x = k
    · rw [decide_eq_true h, if_pos (by simp [h])]
      subst h; rfl
    · rw [decide_eq_false h]
      show (T.int .i64 k, T.bool true) :: putT (mapOf ks) (.int .i64 x) (.bool true) = _
      rw [put_map ks x]
      by_cases hx : x ∈ ks
      · rw [if_pos hx, if_pos (by simp [hx])]; rfl
      · rw [if_neg hx, if_neg (by simp [h, hx])]; rfl
theorem putC_map {R : Type} (ks : List Int) (x : Int) (K : List (T × T) → Option R) : putC (mapOf ks) (.int .i64 x) (.bool true) K = K (mapOf (if x ∈ ks then ks else ks ++ [x])) := by
  unfold putC
  rw [look_map, put_map]
theorem lkT_map {R : Type} (ks : List Int) (x : Int) (K : T → Bool → Option R) : lkT (mapOf ks) (.int .i64 x) (.bool false) K = K (.bool (decide (x ∈ ks))) (decide (x ∈ ks)) := by
  unfold lkT
  rw [look_map]
  by_cases h : x ∈ ks
  · rw [if_pos h, decide_eq_true h]; rfl
  · rw [if_neg h, decide_eq_false h]; rfl
/-- How many lie below. -/
def cnt : List Int → Int → Nat
  | [], _ => 0
  | x :: l, a => (if x < a then 1 else 0) + cnt l a
theorem cnt_all : ∀ (l : List Int) (a : Int), (∀ x ∈ l, x < a) → cnt l a = l.length
  | [], _, _ => rfl
  | x :: l, a, h => by
    unfold cnt
    rw [if_pos (h x (by simp)), cnt_all l a fun y hy => h y (List.mem_cons_of_mem _ hy), List.length_cons]; omega
theorem cnt_none : ∀ (l : List Int) (a : Int), (∀ x ∈ l, a ≤ x) → cnt l a = 0
  | [], _, _ => rfl
  | x :: l, a, h => by
    have := h x (by simp)
    unfold cnt
    rw [if_neg (by omega), cnt_none l a fun y hy => h y (List.mem_cons_of_mem _ hy)]
theorem cnt_step : ∀ (l : List Int) (a : Int), l.Nodup → cnt l (a + 1) = cnt l a + if a ∈ l then 1 else 0
  | [], _, _ => rfl
  | x :: l, a, h => by
    obtain ⟨h1, h2⟩ := List.nodup_cons.1 h
    have := cnt_step l a h2
    unfold cnt
    rw [this]
    have e1 : ∀ c : Prop, ∀ _ : Decidable c, (if c then (1 : Nat) else 0) = 1 ∧ c ∨ (if c then (1 : Nat) else 0) = 0 ∧ ¬ c := fun c _ => by by_cases h : c <;> simp [h]
    by_cases hx : a = x
    · subst hx
      rw [if_neg h1, if_pos (by omega : a < a + 1), if_neg (by omega : ¬ a < a), if_pos (by simp : a ∈ a :: l)]
      omega
    · have hiff : (a ∈ x :: l) ↔ a ∈ l := by simp [hx]
      rcases e1 (a ∈ l) inferInstance with ⟨q1, q2⟩ | ⟨q1, q2⟩
      · rw [q1, if_pos (hiff.2 q2)]
        by_cases hl : x < a
        · rw [if_pos hl, if_pos (by omega : x < a + 1)]; omega
        · rw [if_neg hl, if_neg (by omega : ¬ x < a + 1)]; omega
      · rw [q1, if_neg (fun h => q2 (hiff.1 h))]
        by_cases hl : x < a
        · rw [if_pos hl, if_pos (by omega : x < a + 1)]; omega
        · rw [if_neg hl, if_neg (by omega : ¬ x < a + 1)]; omega
section
variable {k s : Int} {pz cz : Bool} {pos crd : List Int}
/-- Places lie within the size. -/
theorem atOf_range (n : Nat) (v : Valid k s pos crd (n : Int)) (p : Nat) (hp : p < n) (a b : Nat) (ha : segA k s pos p = (a : Int)) (hb : segA k s pos (p + 1) = (b : Int)) (hcb : whole k = false → b ≤ crd.length) (m : Nat) (h1 : a ≤ m) (h2 : m < b) : 0 ≤ atOf k crd (a : Int) (m : Int) ∧ atOf k crd (a : Int) (m : Int) < s := by
  unfold atOf
  cases hw : whole k with
  | true =>
    rw [segA_whole hw] at ha hb
    rw [Int.natCast_add, Int.add_mul] at hb
    rw [if_pos rfl]
    omega
  | false =>
    have := hcb hw
    rw [if_neg (by simp), Int.toNat_natCast]
    exact v.rng _ (nth_mem (by omega))
/-- The children, as pairs. -/
def kidL (k s : Int) (pos crd : List Int) (p : Nat) : List (Int × Int) := (List.range (segA k s pos (p + 1) - segA k s pos p).toNat).map fun (j : Nat) => (atOf k crd (segA k s pos p) (segA k s pos p + j), segA k s pos p + j)
theorem kids_kidL (p : Nat) : kids k s pos crd p = (kidL k s pos crd p).map fun q => kidT q.1 q.2 := by
  unfold kids kidL
  rw [List.map_map]
  rfl
theorem kidL_at (p : Nat) (a b : Nat) (ha : segA k s pos p = (a : Int)) (hb : segA k s pos (p + 1) = (b : Int)) {i : Nat} (hi : i < b - a) : (kidL k s pos crd p)[i]? = some (atOf k crd (a : Int) ((a + i : Nat) : Int), ((a + i : Nat) : Int)) := by
  unfold kidL
  rw [ha, hb, List.getElem?_map, List.getElem?_range (by omega)]
  rfl
theorem kidL_len (p : Nat) (a b : Nat) (ha : segA k s pos p = (a : Int)) (hb : segA k s pos (p + 1) = (b : Int)) : (kidL k s pos crd p).length = b - a := by
  unfold kidL
  rw [ha, hb, List.length_map, List.length_range]
  omega
theorem kidL_mem (p : Nat) (a b : Nat) (ha : segA k s pos p = (a : Int)) (hb : segA k s pos (p + 1) = (b : Int)) (x : Int) : (∃ q ∈ kidL k s pos crd p, q.1 = x) ↔ ∃ m : Nat, a ≤ m ∧ m < b ∧ atOf k crd (a : Int) (m : Int) = x := by
  constructor
  · rintro ⟨q, hq, rfl⟩
    obtain ⟨i, hi, he⟩ := List.mem_iff_getElem.1 hq
    have hlen := kidL_len (crd := crd) p a b ha hb
    have := kidL_at (crd := crd) p a b ha hb (i := i) (by omega)
    rw [List.getElem?_eq_getElem hi, he] at this
    rw [Option.some.inj this]
    exact ⟨a + i, by omega, by omega, rfl⟩
  · rintro ⟨m, h1, h2, rfl⟩
    have := kidL_at (crd := crd) p a b ha hb (i := m - a) (by omega)
    have e : a + (m - a) = m := by omega
    rw [e] at this
    exact ⟨_, List.mem_of_getElem? this, rfl⟩
theorem getK {R : Type} {pl : List (Int × Int)} {i : Nat} {q : Int × Int} (h : pl[i]? = some q) (K : T → Option R) : getT (pl.map fun q => kidT q.1 q.2) i K = K (kidT q.1 q.2) := by
  rw [getT_at]
  rw [List.getElem?_map, h]; rfl
theorem L610_spec (ahead p : Int) (up z : Bool) (pl : List (Int × Int)) (hb : pl.length ≤ 9223372036854775806) : ∀ (m i : Nat) (ks : List Int), m + i = pl.length → ks.Nodup →
    ∃ ks' : List Int, L6_10 ahead p up z (pl.map fun q => kidT q.1 q.2) (pl.length : Int) (i : Int) k s pz (ints pos) cz (ints crd) (mapOf ks) = L6_16 ahead p up 0 (-1) k s pz (ints pos) cz (ints crd) (mapOf ks') ∧ ks'.Nodup ∧ ∀ x, x ∈ ks' ↔ x ∈ ks ∨ ∃ q ∈ pl.drop i, q.1 = x
  | 0, i, ks, h, hn => by
    have d : decide ((i : Int) < (pl.length : Int)) = false := decide_eq_false (by omega)
    rw [L6_10_eq, RL6_10, d, cf]
    refine ⟨ks, rfl, hn, fun x => ?_⟩
    rw [List.drop_of_length_le (by omega)]
    simp
  | m + 1, i, ks, h, hn => by
    have d : decide ((i : Int) < (pl.length : Int)) = true := decide_eq_true (by omega)
    have hq : pl[i]? = some (pl[i]'(by omega)) := List.getElem?_eq_getElem (by omega)
    generalize pl[i]'(by omega) = q at hq
    have hn2 : (if q.1 ∈ ks then ks else ks ++ [q.1]).Nodup := by
      by_cases hm : q.1 ∈ ks
      · rw [if_pos hm]; exact hn
      · rw [if_neg hm]
        refine List.nodup_append.2 ⟨hn, by simp, fun x hx y hy => ?_⟩
        rw [List.mem_singleton] at hy
        subst hy
        exact fun h => hm (h ▸ hx)
    obtain ⟨ks', h1, h2, h3⟩ := L610_spec ahead p up z pl hb m (i + 1) (if q.1 ∈ ks then ks else ks ++ [q.1]) (by omega) hn2
    rw [L6_10_eq, RL6_10, d, ct, needNat, Int.toNat_natCast, getK hq]
    simp only [callK_some, asT_t, asI_int, asB_bool, asS_str, asL_list, asA_agg, consT_cons, endT_nil, asG_agg, asTup_tup, consV_cons, endV_nil, endB_nil, consB_cons, asArr_arr, asAv_av, asMp_map, asVar_var, isBuf_buf, isPtr_ptr, needC_t, ct, cf, bNT, bNF, bTA, bAT, bFA, bAF, bTO, bOT, bFO, bOF, dT, dF]
    rw [putC_map, natWrap (by omega)]
    refine ⟨ks', h1, h2, fun x => (h3 x).trans ?_⟩
    have hd : pl.drop i = q :: pl.drop (i + 1) := by
      obtain ⟨g1, g2⟩ := List.getElem?_eq_some_iff.1 hq
      rw [List.drop_eq_getElem_cons g1, g2]
    rw [hd]
    by_cases hm : q.1 ∈ ks
    · rw [if_pos hm]
      constructor
      · rintro (h | ⟨q', h, rfl⟩)
        · exact .inl h
        · exact .inr ⟨q', List.mem_cons_of_mem _ h, rfl⟩
      · rintro (h | ⟨q', h, rfl⟩)
        · exact .inl h
        · rcases List.mem_cons.1 h with rfl | h
          · exact .inl hm
          · exact .inr ⟨q', h, rfl⟩
    · rw [if_neg hm]
      constructor
      · rintro (h | ⟨q', h, rfl⟩)
        · rcases List.mem_append.1 h with h | h
          · exact .inl h
          · rw [List.mem_singleton] at h
            exact .inr ⟨q, by simp, h.symm⟩
        · exact .inr ⟨q', List.mem_cons_of_mem _ h, rfl⟩
      · rintro (h | ⟨q', h, rfl⟩)
        · exact .inl (List.mem_append_left _ h)
        · rcases List.mem_cons.1 h with rfl | h
          · exact .inl (by simp)
          · exact .inr ⟨q', h, rfl⟩
theorem L616_spec (n : Nat) (v : Valid k s pos crd (n : Int)) (hp' : pos.length ≤ 9223372036854775807) (p : Nat) (hp : p < n) (a b : Nat) (ha : segA k s pos p = (a : Int)) (hb : segA k s pos (p + 1) = (b : Int)) (hab : a ≤ b) (hbb : b ≤ 1048576) (hcb : whole k = false → b ≤ crd.length) (ks : List Int) (hk : ks.Nodup) (hkm : ∀ x, x ∈ ks ↔ ∃ m : Nat, a ≤ m ∧ m < b ∧ atOf k crd (a : Int) (m : Int) = x) (hs : s ≤ 300) :
    ∀ (d : Nat) (at' : Int) (many : Nat), (d : Int) + at' = s + 1 → -1 ≤ at' → many = cnt ks at' → many ≤ at' + 1 →
    L6_16 (n : Int) (p : Int) true (many : Int) at' k s pz (ints pos) cz (ints crd) (mapOf ks) = some (.t (.bool true), e0)
  | 0, at', many, h, h1, hm, hb1 => by
    have d : decide (at' ≤ s) = false := decide_eq_false (by omega)
    rw [L6_16_eq, RL6_16, d, cf, ct]
    have hall : cnt ks at' = ks.length := cnt_all _ _ fun x hx => by
      obtain ⟨m, m1, m2, rfl⟩ := (hkm x).1 hx
      have := atOf_range n v p hp a b ha hb hcb m m1 m2
      omega
    have e : (many : Int) = ((mapOf ks).length : Int) := by rw [hm, hall]; simp
    rw [decide_eq_true e]
  | d + 1, at', many, h, h1, hm, hb1 => by
    have dd : decide (at' ≤ s) = true := decide_eq_true (by omega)
    have step := cnt_step ks at' hk
    rw [L6_16_eq, RL6_16, dd, ct]
    rcases find20 (pz := pz) (cz := cz) n v hp' p hp at' a b ha hb hab hbb hcb with ⟨m, q1, q2, q3, q4, _⟩ | ⟨q1, q2⟩
    · have hin : at' ∈ ks := (hkm at').2 ⟨m, q2, q3, q4⟩
      rw [if_pos hin] at step
      rw [q1, callK_some]
      simp only [callK_some, asT_t, asI_int, asB_bool, asS_str, asL_list, asA_agg, consT_cons, endT_nil, asG_agg, asTup_tup, consV_cons, endV_nil, endB_nil, consB_cons, asArr_arr, asAv_av, asMp_map, asVar_var, isBuf_buf, isPtr_ptr, needC_t, ct, cf, bNT, bNF, bTA, bAT, bFA, bAF, bTO, bOT, bFO, bOF, dT, dF]
      rw [lkT_map, decide_eq_true hin]
      simp only [callK_some, asT_t, asI_int, asB_bool, asS_str, asL_list, asA_agg, consT_cons, endT_nil, asG_agg, asTup_tup, consV_cons, endV_nil, endB_nil, consB_cons, asArr_arr, asAv_av, asMp_map, asVar_var, isBuf_buf, isPtr_ptr, needC_t, ct, cf, bNT, bNF, bTA, bAT, bFA, bAF, bTO, bOT, bFO, bOF, dT, dF]
      rw [wrap64 (by omega) (by omega), wrap64 (by omega) (by omega)]
      have := L616_spec n v hp' p hp a b ha hb hab hbb hcb ks hk hkm hs d (at' + 1) (many + 1) (by omega) (by omega) (by omega) (by omega)
      rw [Int.natCast_add] at this
      exact this
    · have hin : at' ∉ ks := fun h => by
        obtain ⟨m, m1, m2, m3⟩ := (hkm at').1 h
        exact q2 m m1 m2 m3
      rw [if_neg hin] at step
      rw [q1, callK_some]
      simp only [callK_some, asT_t, asI_int, asB_bool, asS_str, asL_list, asA_agg, consT_cons, endT_nil, asG_agg, asTup_tup, consV_cons, endV_nil, endB_nil, consB_cons, asArr_arr, asAv_av, asMp_map, asVar_var, isBuf_buf, isPtr_ptr, needC_t, ct, cf, bNT, bNF, bTA, bAT, bFA, bAF, bTO, bOT, bFO, bOF, dT, dF]
      rw [lkT_map, decide_eq_false hin]
      simp only [callK_some, asT_t, asI_int, asB_bool, asS_str, asL_list, asA_agg, consT_cons, endT_nil, asG_agg, asTup_tup, consV_cons, endV_nil, endB_nil, consB_cons, asArr_arr, asAv_av, asMp_map, asVar_var, isBuf_buf, isPtr_ptr, needC_t, ct, cf, bNT, bNF, bTA, bAT, bFA, bAF, bTO, bOT, bFO, bOF, dT, dF]
      rw [wrap64 (by omega) (by omega)]
      exact L616_spec n v hp' p hp a b ha hb hab hbb hcb ks hk hkm hs d (at' + 1) many (by omega) (by omega) (by omega) (by omega)
end
theorem modPos {n : Int} (h : 1 ≤ n) (h2 : n ≤ 1048576) (p : Int) : ∃ q : Nat, Int.tmod (IntKind.i64.wrap (Int.tmod p n + n)) n = (q : Int) ∧ (q : Int) < n := by
  have h3 := Int.tmod_lt_of_pos p (by omega : 0 < n)
  have h4 := Int.lt_tmod_of_pos p (by omega : 0 < n)
  rw [wrap64 (by omega) (by omega)]
  have h5 := Int.tmod_lt_of_pos (Int.tmod p n + n) (by omega : 0 < n)
  have h6 := Int.tmod_nonneg n (by omega : 0 ≤ Int.tmod p n + n)
  exact ⟨(Int.tmod (Int.tmod p n + n) n).toNat, by omega, by omega⟩
theorem places_spec (x0 : T) (f0 : FitT lvTy true x0) (a1 a2 : Int) : ∃ st, vr 6 0 [.t x0, .t (.int .i64 a1), .t (.int .i64 a2)] ⟨[], []⟩ = some (.t (.bool true), st) := by
  obtain ⟨k, s, pz, pos, cz, crd, rfl⟩ := level_of f0
  refine ⟨e0, ?_⟩
  rw [eq6, R6, live9, callK_some, asT_t, asB_bool, endB_nil]
  obtain ⟨b, h1, h2⟩ := few18 (k := k) (s := s) (pz := pz) (cz := cz) (pos := pos) (crd := crd) a1
  rw [h1, callK_some, asT_t, asB_bool, endB_nil]
  cases b with
  | false => rw [bNF, ct]
  | true =>
    obtain ⟨hp, hc⟩ := h2 rfl
    rw [bNT, cf]
    by_cases ha1 : a1 < 1
    · rw [decide_eq_true ha1, ct]
    rw [decide_eq_false ha1, cf]
    by_cases hs3 : 300 < s
    · rw [decide_eq_true hs3, ct]
    rw [decide_eq_false hs3, cf]
    obtain ⟨e, g1, g2, _⟩ := check19 (k := k) (s := s) (pz := pz) (cz := cz) (pos := pos) (crd := crd) a1 (by omega) (by omega)
    rw [g1, callK_some, asT_t, asI_int, endB_nil]
    by_cases he : e = 0
    · have v := g2.1 he
      rw [decide_eq_true he, bNT, cf, decide_eq_false (by omega : ¬ a1 = 0), bNF, needC_t, needC_t]
      obtain ⟨q, hq1, hq2⟩ := modPos (by omega : 1 ≤ a1) v.a1 a2
      rw [hq1]
      obtain ⟨n, rfl⟩ : ∃ n : Nat, a1 = (n : Int) := ⟨a1.toNat, by omega⟩
      have hq3 : q < n := by omega
      obtain ⟨zz, c1⟩ := children15 (pz := pz) (cz := cz) n v (by omega) q hq3
      obtain ⟨a, b, ha, hb, hab, hbb, hcb, _⟩ := v.segNat n q hq3
      have hlen := kidL_len (crd := crd) q a b ha hb
      rw [c1, kids_kidL, callK_some]
      simp only [callK_some, asT_t, asI_int, asB_bool, asS_str, asL_list, asA_agg, consT_cons, endT_nil, asG_agg, asTup_tup, consV_cons, endV_nil, endB_nil, consB_cons, asArr_arr, asAv_av, asMp_map, asVar_var, isBuf_buf, isPtr_ptr, needC_t, ct, cf, bNT, bNF, bTA, bAT, bFA, bAF, bTO, bOT, bFO, bOF, dT, dF]
      rw [List.length_map]
      obtain ⟨ks, d1, d2, d3⟩ := L610_spec (k := k) (s := s) (pz := pz) (cz := cz) (pos := pos) (crd := crd) (n : Int) (q : Int) true zz (kidL k s pos crd q) (by omega) (kidL k s pos crd q).length 0 [] (by omega) (by simp)
      refine Eq.trans d1 ?_
      have hkm : ∀ x, x ∈ ks ↔ ∃ m : Nat, a ≤ m ∧ m < b ∧ atOf k crd (a : Int) (m : Int) = x := fun x => by
        rw [d3 x, List.drop_zero, kidL_mem q a b ha hb x]
        simp
      have hs0 := v.s0
      refine L616_spec n v (by omega) q hq3 a b ha hb hab hbb hcb ks d2 hkm (by omega) (s + 2).toNat (-1) 0 (by omega) (by omega) ?_ (by omega)
      rw [cnt_none]
      intro x hx
      obtain ⟨m, m1, m2, rfl⟩ := (hkm x).1 hx
      have := atOf_range n v q hq3 a b ha hb hcb m m1 m2
      omega
    · rw [decide_eq_false he, bNF, ct]
end Go.Proofs.Ytejfkiohnoiagaa.VM
end
