/- Merged: Ya1 Ya2 Ya3 Ya4 Ya5 Ya6 Ya7 Ya8. Conditions: none. -/
import Derived.Test.YtejfkiohnoiagaaOv
import Derived.Laws.Bits64
set_option linter.all false
section
namespace Go.Proofs.Ytejfkiohnoiagaa.VM
set_option linter.unusedSectionVars false
open Go AM
abbrev e0 : St := ⟨[], []⟩
abbrev iT (n : Int) : T := .int .i64 n
abbrev ints (l : List Int) : List T := l.map iT
/-- A list's element. -/
def nth (l : List Int) (i : Nat) : Int := l.getD i 0
theorem ints_len (l : List Int) : (ints l).length = l.length := by simp
theorem nth_at {l : List Int} {i : Nat} (h : i < l.length) : l[i]? = some (nth l i) := by
  unfold nth
  rw [List.getD_eq_getElem?_getD, List.getElem?_eq_getElem h]; rfl
theorem ints_at {l : List Int} {i : Nat} (h : i < l.length) : (ints l)[i]? = some (.int .i64 (nth l i)) := by
  rw [List.getElem?_map, nth_at h]; rfl
theorem getI {R : Type} {l : List Int} {i : Nat} (h : i < l.length) (K : Int → Option R) : getT (ints l) i (fun e => asI .i64 e K) = K (nth l i) := by
  rw [getT_at (ints_at h), asI_int]
theorem needNat {R : Type} (i : Nat) (K : Unit → Option R) : needC (decide ((0 : Int) ≤ (i : Int))) K = K () := by
  rw [decide_eq_true (by omega), needC_t]
theorem need00 {R : Type} (K : Unit → Option R) : needC (decide (0 ≤ 0)) K = K () := needC_true rfl K
theorem nth_mem {l : List Int} {i : Nat} (h : i < l.length) : nth l i ∈ l := List.mem_of_getElem? (nth_at h)
theorem nth_take {l : List Int} {i n : Nat} (h : i < n) (hn : i < l.length) : nth (l.take n) i = nth l i := by
  have h1 : i < (l.take n).length := by rw [List.length_take]; omega
  have := nth_at h1
  rw [List.getElem?_take, if_pos h, nth_at hn] at this
  exact (Option.some.inj this).symm
theorem nth_drop {l : List Int} {i n : Nat} (h : n + i < l.length) : nth (l.drop n) i = nth l (n + i) := by
  have h1 : i < (l.drop n).length := by rw [List.length_drop]; omega
  have := nth_at h1
  rw [List.getElem?_drop, nth_at h] at this
  exact (Option.some.inj this).symm
theorem nth_ext {a b : List Int} (hl : a.length = b.length) (h : ∀ i, i < a.length → nth a i = nth b i) : a = b := by
  apply List.ext_getElem? 
  intro i
  by_cases hi : i < a.length
  · rw [nth_at hi, nth_at (by omega), h i hi]
  · rw [List.getElem?_eq_none (by omega), List.getElem?_eq_none (by omega)]
theorem cutI {R : Type} {l : List Int} {a b : Nat} (h : a ≤ b) (hb : b ≤ l.length) (K : List T → Option R) : cutL (ints l) (some (a : Int)) (some (b : Int)) K = K (ints ((l.take b).drop a)) := by
  unfold cutL
  simp only [Option.getD_some]
  rw [needC_true (by rw [decide_eq_true (by omega), decide_eq_true (by omega), decide_eq_true (by rw [ints_len]; omega)]; rfl), Int.toNat_natCast, Int.toNat_natCast, ← List.map_take, ← List.map_drop]
theorem cutI0 {R : Type} {l : List Int} {b : Nat} (hb : b ≤ l.length) (K : List T → Option R) : cutL (ints l) none (some (b : Int)) K = K (ints (l.take b)) := by
  unfold cutL
  simp only [Option.getD_some, Option.getD_none]
  rw [needC_true (by rw [decide_eq_true (by omega), decide_eq_true (by omega), decide_eq_true (by rw [ints_len]; omega)]; rfl), Int.toNat_natCast, ← List.map_take]
  rfl
theorem natWrap {n : Nat} (h : n < 9223372036854775807) : IntKind.i64.wrap ((n : Int) + 1) = ((n + 1 : Nat) : Int) := by rw [wrap64 (by omega) (by omega)]; simp
/-- A level, as a tree. -/
abbrev lvT (k s : Int) (pz : Bool) (pos : List Int) (cz : Bool) (crd : List Int) : T := .agg [.int .i64 k, .int .i64 s, .list 1 pz (ints pos), .list 1 cz (ints crd)]
def whole (k : Int) : Bool := decide (k = 0) || decide (k = 4)
section
variable {k s : Int} {pz cz : Bool} {pos crd : List Int}
theorem whole14 : vr 14 0 [.t (lvT k s pz pos cz crd)] e0 = some (.t (.bool (whole k)), e0) := by
  rw [eq14, R14]
  unfold whole
  cases decide (k = 0) <;> rfl
theorem nan46 (a : Int) : vr 46 0 [.t (.int .i64 a)] e0 = some (.t (.bool false), e0) := by
  rw [eq46, R46, decide_eq_true rfl, bNT]
theorem nan47 (a : Int) : vr 47 0 [.t (.int .i64 a)] e0 = some (.t (.bool false), e0) := by
  rw [eq47, R47, decide_eq_true rfl, bNT]
theorem less45 (a b : Int) : vr 45 0 [.t (.int .i64 a), .t (.int .i64 b)] e0 = some (.t (.bool (decide (a < b))), e0) := by
  rw [eq45, R45, nan47, callK_some, asT_t, asB_bool, endB_nil, cf]
def Sorted (l : List Int) : Prop := ∀ j, 1 ≤ j → j < l.length → nth l (j - 1) ≤ nth l j
theorem L43_spec (z : Bool) (l : List Int) (hb : l.length ≤ 9223372036854775807) : ∀ i : Nat, i < l.length → ∃ b, L43_2 z (ints l) (i : Int) = some (.t (.bool b), e0) ∧ (b = true ↔ ∀ j, 1 ≤ j → j ≤ i → nth l (j - 1) ≤ nth l j)
  | 0, hi => by
    rw [L43_2_eq, RL43_2]
    exact ⟨true, rfl, by constructor <;> intro h; · intro j h1 h2; omega
                         · rfl⟩
  | i + 1, hi => by
    obtain ⟨b, h1, h2⟩ := L43_spec z l hb i (by omega)
    have hw : IntKind.i64.wrap (((i + 1 : Nat) : Int) - 1) = (i : Int) := by rw [wrap64 (by omega) (by omega)]; omega
    have d1 : decide ((0 : Int) < ((i + 1 : Nat) : Int)) = true := decide_eq_true (by omega)
    rw [L43_2_eq, RL43_2, d1, ct, needNat, Int.toNat_natCast, getI hi, hw, needNat, Int.toNat_natCast, getI (by omega), less45, callK_some, asT_t, asB_bool, endB_nil]
    by_cases hlt : nth l (i + 1) < nth l i
    · rw [decide_eq_true hlt, ct]
      refine ⟨false, rfl, by constructor <;> intro h; · cases h
                             · have := h (i + 1) (by omega) (by omega)
                               simp only [Nat.add_sub_cancel] at this
                               omega⟩
    · rw [decide_eq_false hlt, cf]
      refine ⟨b, h1, h2.trans ?_⟩
      constructor
      · intro h j h3 h4
        by_cases hj : j = i + 1
        · subst hj; simp only [Nat.add_sub_cancel]; omega
        · exact h j h3 (by omega)
      · intro h j h3 h4
        exact h j h3 (by omega)
theorem sorted43 (z : Bool) (l : List Int) (hb : l.length ≤ 9223372036854775807) : ∃ b, vr 43 0 [.t (.list 1 z (ints l))] e0 = some (.t (.bool b), e0) ∧ (b = true ↔ Sorted l) := by
  rw [eq43, R43, ints_len]
  by_cases h0 : l.length = 0
  · have hw : IntKind.i64.wrap ((l.length : Int) - 1) = -1 := by rw [h0]; rfl
    rw [hw, L43_2_eq, RL43_2]
    exact ⟨true, rfl, by constructor <;> intro h; · intro j h1 h2; omega
                         · rfl⟩
  · have hw : IntKind.i64.wrap ((l.length : Int) - 1) = ((l.length - 1 : Nat) : Int) := by rw [wrap64 (by omega) (by omega)]; omega
    obtain ⟨b, h1, h2⟩ := L43_spec z l hb (l.length - 1) (by omega)
    rw [hw]
    refine ⟨b, h1, h2.trans ?_⟩
    unfold Sorted
    constructor
    · intro h j h3 h4; exact h j h3 (by omega)
    · intro h j h3 h4; exact h j h3 (by omega)
/-- The variable that a closure has taken along. -/
abbrev lvB (k s : Int) (pz : Bool) (P : List T) (cz : Bool) (C : List T) : Bs := [(0, .var [.t (.int .i64 k), .t (.int .i64 s), .t (.list 1 pz P), .t (.list 1 cz C)])]
theorem out35 (c : Int) (P C : List T) : vr 35 0 [.t (.int .i64 c), .ptr 0 0 0] ⟨lvB k s pz P cz C, []⟩ = some (.t (.bool (decide (c < 0) || decide (s ≤ c))), ⟨lvB k s pz P cz C, [500]⟩) := by
  rw [eq35, R35]
  cases decide (c < 0) <;> rfl
theorem L44_spec (z : Bool) (P C : List T) (hb : crd.length ≤ 9223372036854775806) : ∀ (m i : Nat), m + i = crd.length → ∃ r : Int, L44_2 z (ints crd) (crd.length : Int) (i : Int) k s pz P cz C = some (.t (.int .i64 r), ⟨lvB k s pz P cz C, [500]⟩) ∧
    (0 ≤ r ↔ ∃ j, i ≤ j ∧ j < crd.length ∧ (nth crd j < 0 ∨ s ≤ nth crd j))
  | 0, i, h => by
    have d : decide ((i : Int) < (crd.length : Int)) = false := decide_eq_false (by omega)
    rw [L44_2_eq, RL44_2, d, cf]
    exact ⟨-1, rfl, by constructor
                       · intro h; omega
                       · rintro ⟨j, h1, h2, _⟩; omega⟩
  | m + 1, i, h => by
    have d : decide ((i : Int) < (crd.length : Int)) = true := decide_eq_true (by omega)
    obtain ⟨r, h1, h2⟩ := L44_spec z P C hb m (i + 1) (by omega)
    rw [L44_2_eq, RL44_2, d, ct, needNat, Int.toNat_natCast, getI (by omega), out35, callK_some, asT_t, asB_bool]
    simp only [callK_some, asT_t, asI_int, asB_bool, asS_str, asL_list, asA_agg, consT_cons, endT_nil, asG_agg, asTup_tup, consV_cons, endV_nil, endB_nil, consB_cons, asArr_arr, asAv_av, asMp_map, asVar_var, isBuf_buf, isPtr_ptr, needC_t, ct, cf, bNT, bNF, bTA, bAT, bFA, bAF, bTO, bOT, bFO, bOF, dT, dF]
    rw [natWrap (by omega), h1]
    by_cases hc : nth crd i < 0 ∨ s ≤ nth crd i
    · have : (decide (nth crd i < 0) || decide (s ≤ nth crd i)) = true := by
        rcases hc with h | h
        · rw [decide_eq_true h, bTO]
        · rw [decide_eq_true h, bOT]
      rw [this, ct]
      exact ⟨_, rfl, by constructor
                        · intro _; exact ⟨i, Nat.le_refl _, by omega, hc⟩
                        · intro _; omega⟩
    · have : (decide (nth crd i < 0) || decide (s ≤ nth crd i)) = false := by
        rw [decide_eq_false (fun h => hc (.inl h)), decide_eq_false (fun h => hc (.inr h)), bFO]
      rw [this, cf]
      refine ⟨r, rfl, h2.trans ?_⟩
      constructor
      · rintro ⟨j, h3, h4, h5⟩; exact ⟨j, by omega, h4, h5⟩
      · rintro ⟨j, h3, h4, h5⟩
        refine ⟨j, ?_, h4, h5⟩
        rcases Nat.lt_or_ge i j with h | h
        · omega
        · have : j = i := by omega
          subst this; exact absurd h5 hc
theorem contains34 (z : Bool) (P C : List T) (hb : crd.length ≤ 9223372036854775806) : ∃ b, vr 34 0 [.t (.list 1 z (ints crd)), .fn 35 [] [.ptr 0 0 0]] ⟨lvB k s pz P cz C, []⟩ = some (.t (.bool b), ⟨lvB k s pz P cz C, [500]⟩) ∧
    (b = true ↔ ∃ j, j < crd.length ∧ (nth crd j < 0 ∨ s ≤ nth crd j)) := by
  obtain ⟨r, h1, h2⟩ := L44_spec (k := k) (s := s) (pz := pz) (cz := cz) z P C hb crd.length 0 (by omega)
  rw [eq34, R34, eq44, R44, ints_len]
  have e : ((0 : Nat) : Int) = 0 := rfl
  rw [e] at h1
  rw [h1, callK_some]
  simp only [callK_some, asT_t, asI_int, asB_bool, asS_str, asL_list, asA_agg, consT_cons, endT_nil, asG_agg, asTup_tup, consV_cons, endV_nil, endB_nil, consB_cons, asArr_arr, asAv_av, asMp_map, asVar_var, isBuf_buf, isPtr_ptr, needC_t, ct, cf, bNT, bNF, bTA, bAT, bFA, bAF, bTO, bOT, bFO, bOF, dT, dF]
  refine ⟨_, rfl, ?_⟩
  rw [decide_eq_true_iff, h2]
  constructor
  · rintro ⟨j, _, h4, h5⟩; exact ⟨j, h4, h5⟩
  · rintro ⟨j, h4, h5⟩; exact ⟨j, Nat.zero_le _, h4, h5⟩
/-- Whether a level's lists are as long as they should be. -/
def Formed (k s : Int) (pos crd : List Int) (ahead : Int) : Prop :=
  ((k = 0 ∨ (k = 4 ∧ s ≠ 0)) ∧ pos = [] ∧ crd = []) ∨ (k = 3 ∧ pos = [] ∧ (crd.length : Int) = ahead) ∨
  ((k = 1 ∨ k = 2) ∧ (pos.length : Int) = ahead + 1 ∧ nth pos 0 = 0 ∧ nth pos ahead.toNat = (crd.length : Int) ∧ Sorted pos)
theorem len0 {l : List Int} : ((ints l).length : Int) = 0 ↔ l = [] := by
  rw [ints_len]
  constructor
  · intro h; exact List.length_eq_zero_iff.1 (by omega)
  · rintro rfl; rfl
theorem formed33 (ahead : Nat) (ha : ahead ≤ 1048576) (hp : pos.length ≤ 9223372036854775807) : ∃ b, vr 33 0 [.t (lvT k s pz pos cz crd), .t (.int .i64 (ahead : Int))] e0 = some (.t (.bool b), e0) ∧ (b = true ↔ Formed k s pos crd (ahead : Int)) := by
  have J9 : ∃ b, J33_9 k s pz (ints pos) cz (ints crd) = some (.t (.bool b), e0) ∧ (b = true ↔ pos = [] ∧ crd = []) := by
    rw [J33_9_eq, RJ33_9]
    by_cases h : ((ints pos).length : Int) = 0
    · rw [decide_eq_true h, ct]
      refine ⟨_, rfl, ?_⟩
      rw [decide_eq_true_iff, len0]
      exact ⟨fun h2 => ⟨len0.1 h, h2⟩, fun h2 => h2.2⟩
    · rw [decide_eq_false h, cf]
      exact ⟨false, rfl, by constructor
                            · intro h; cases h
                            · rintro ⟨h1, _⟩; exact absurd (len0.2 h1) h⟩
  have J11 : ∃ b, J33_11 (ahead : Int) k s pz (ints pos) cz (ints crd) = some (.t (.bool b), e0) ∧ (b = true ↔ (pos.length : Int) = (ahead : Int) + 1 ∧ nth pos 0 = 0 ∧ nth pos ahead = (crd.length : Int) ∧ Sorted pos) := by
    rw [J33_11_eq, RJ33_11, ints_len, natWrap (by omega)]
    by_cases h1 : (pos.length : Int) = ((ahead + 1 : Nat) : Int)
    · rw [decide_eq_true h1, ct, need00]
      have e : ((0 : Int)).toNat = 0 := rfl
      rw [e, getI (by omega)]
      by_cases h2 : nth pos 0 = 0
      · rw [decide_eq_true h2, ct, needNat, Int.toNat_natCast, getI (by omega), ints_len]
        by_cases h3 : nth pos ahead = (crd.length : Int)
        · obtain ⟨b, h4, h5⟩ := sorted43 pz pos hp
          rw [decide_eq_true h3, ct, h4, callK_some, asT_t, asB_bool, endB_nil]
          refine ⟨b, rfl, h5.trans ⟨fun h => ⟨by omega, h2, h3, h⟩, fun h => h.2.2.2⟩⟩
        · rw [decide_eq_false h3, cf]
          exact ⟨false, rfl, by simp [h3]⟩
      · rw [decide_eq_false h2, cf]
        exact ⟨false, rfl, by simp [h2]⟩
    · rw [decide_eq_false h1, cf]
      have : ¬ (pos.length : Int) = (ahead : Int) + 1 := by omega
      exact ⟨false, rfl, by simp [this]⟩
  rw [eq33, R33]
  unfold Formed
  rw [Int.toNat_natCast]
  by_cases h4 : k = 4
  · subst h4
    rw [decide_eq_true rfl, ct]
    by_cases hs : s = 0
    · rw [decide_eq_true hs, ct]
      exact ⟨false, rfl, by simp [hs]⟩
    · rw [decide_eq_false hs, cf]
      obtain ⟨b, h1, h2⟩ := J9
      exact ⟨b, h1, by rw [h2]; simp [hs]⟩
  · rw [decide_eq_false h4, cf]
    by_cases h0 : k = 0
    · subst h0
      rw [decide_eq_true rfl, ct]
      obtain ⟨b, h1, h2⟩ := J9
      exact ⟨b, h1, by rw [h2]; simp⟩
    · rw [decide_eq_false h0, cf]
      by_cases h3 : k = 3
      · subst h3
        rw [decide_eq_true rfl, ct]
        by_cases hp0 : ((ints pos).length : Int) = 0
        · rw [decide_eq_true hp0, ct, ints_len]
          refine ⟨_, rfl, ?_⟩
          rw [decide_eq_true_iff]
          simp [len0.1 hp0]
        · rw [decide_eq_false hp0, cf]
          have : pos ≠ [] := fun h => hp0 (len0.2 h)
          exact ⟨false, rfl, by simp [this]⟩
      · rw [decide_eq_false h3, cf]
        obtain ⟨b, h1, h2⟩ := J11
        by_cases k1 : k = 1
        · subst k1
          rw [decide_eq_true rfl, ct]
          exact ⟨b, h1, by rw [h2]; simp⟩
        · rw [decide_eq_false k1, cf]
          by_cases k2 : k = 2
          · subst k2
            rw [decide_eq_true rfl, ct]
            exact ⟨b, h1, by rw [h2]; simp⟩
          · rw [decide_eq_false k2, cf]
            exact ⟨false, rfl, by simp [h4, h0, h3, k1, k2]⟩
/-- How many children there are. -/
def belowN (k s : Int) (crd : List Int) (ahead : Int) : Int := if whole k = true then ahead * s else crd.length
theorem below29 (ahead : Nat) (ha : ahead ≤ 1048576) (hs : 0 ≤ s) (hs2 : s ≤ 2147483648) : vr 29 0 [.t (lvT k s pz pos cz crd), .t (.int .i64 (ahead : Int))] e0 = some (.t (.int .i64 (belowN k s crd (ahead : Int))), e0) := by
  rw [eq29, R29, whole14, callK_some, asT_t, asB_bool, endB_nil]
  unfold belowN
  cases whole k with
  | true =>
    have h1 : 0 ≤ (ahead : Int) * s := Int.mul_nonneg (by omega) hs
    have h2 : (ahead : Int) * s ≤ 1048576 * 2147483648 := Int.mul_le_mul (by omega) hs2 hs (by omega)
    rw [ct, if_pos rfl, wrap64 (by omega) (by omega)]
  | false => rw [cf, if_neg (by simp), ints_len]
/-- Whether places of each one's children rise by so much. -/
def Rise (least : Int) (pos crd : List Int) (n : Nat) : Prop := ∀ p, p < n → ∀ i : Nat, nth pos p < (i : Int) → (i : Int) < nth pos (p + 1) → least ≤ nth crd i - nth crd (i - 1)
theorem L36_14_spec (least : Int) (z1 z2 : Bool) (part : List Int) (t22 : List T) (t23 t24 : Int) (P C : List T) (hr : ∀ c ∈ part, 0 ≤ c ∧ c < 2147483648) (hb : part.length ≤ 100000) :
    ∀ (m i : Nat), m + i = part.length → 1 ≤ i →
    ((∃ j, i ≤ j ∧ j < part.length ∧ nth part j - nth part (j - 1) < least) ∧ L36_14 least z1 (ints part) (i : Int) z2 t22 t23 t24 k s pz P cz C = some (.t (.bool false), e0)) ∨
    ((∀ j, i ≤ j → j < part.length → least ≤ nth part j - nth part (j - 1)) ∧ L36_14 least z1 (ints part) (i : Int) z2 t22 t23 t24 k s pz P cz C = L36_10 least z2 t22 t23 (IntKind.i64.wrap (t24 + 1)) k s pz P cz C)
  | 0, i, h, h1 => by
    have d : decide ((i : Int) < ((ints part).length : Int)) = false := decide_eq_false (by rw [ints_len]; omega)
    rw [L36_14_eq, RL36_14, d, cf]
    exact .inr ⟨fun j h1 h2 => by omega, rfl⟩
  | m + 1, i, h, h1 => by
    have d : decide ((i : Int) < ((ints part).length : Int)) = true := decide_eq_true (by rw [ints_len]; omega)
    have hw : IntKind.i64.wrap ((i : Int) - 1) = ((i - 1 : Nat) : Int) := by rw [wrap64 (by omega) (by omega)]; omega
    have hi := hr _ (nth_mem (l := part) (i := i) (by omega))
    have hj := hr _ (nth_mem (l := part) (i := i - 1) (by omega))
    rw [L36_14_eq, RL36_14, d, ct, needNat, Int.toNat_natCast, getI (by omega), hw, needNat, Int.toNat_natCast, getI (by omega), wrap64 (by omega) (by omega), natWrap (by omega)]
    by_cases hlt : nth part i - nth part (i - 1) < least
    · rw [decide_eq_true hlt, ct]
      exact .inl ⟨⟨i, Nat.le_refl _, by omega, hlt⟩, rfl⟩
    · rw [decide_eq_false hlt, cf]
      rcases L36_14_spec least z1 z2 part t22 t23 t24 P C hr hb m (i + 1) (by omega) (by omega) with ⟨⟨j, h2, h3, h4⟩, h5⟩ | ⟨h2, h3⟩
      · exact .inl ⟨⟨j, by omega, h3, h4⟩, h5⟩
      · refine .inr ⟨fun j h4 h5 => ?_, h3⟩
        by_cases hj : j = i
        · subst hj; omega
        · exact h2 j (by omega) h5
theorem L36_10_spec (least : Int) (z1 z2 : Bool) (hr : ∀ c ∈ crd, 0 ≤ c ∧ c < 2147483648) (hb : crd.length ≤ 65536) (n : Nat) (hn : pos.length = n + 1) (hn2 : n ≤ 1048576) (hs : Sorted pos) (h0 : nth pos 0 = 0) (hl : nth pos n = (crd.length : Int)) :
    ∀ (m p : Nat), m + p = n → ∃ b, L36_10 least z1 (ints (pos.take n)) ((ints (pos.take n)).length : Int) (p : Int) k s pz (ints pos) cz (ints crd) = some (.t (.bool b), e0) ∧
      (b = true ↔ ∀ q, p ≤ q → q < n → ∀ i : Nat, nth pos q < (i : Int) → (i : Int) < nth pos (q + 1) → least ≤ nth crd i - nth crd (i - 1))
  | 0, p, h => by
    have d : decide ((p : Int) < ((ints (pos.take n)).length : Int)) = false := decide_eq_false (by rw [ints_len, List.length_take]; omega)
    rw [L36_10_eq, RL36_10, d, cf]
    exact ⟨true, rfl, by constructor
                         · intro _ q h1 h2; omega
                         · intro _; rfl⟩
  | m + 1, p, h => by
    have mono : ∀ a b : Nat, a ≤ b → b ≤ n → nth pos a ≤ nth pos b := by
      intro a b hab
      induction b with
      | zero => intro _; have : a = 0 := by omega
                subst this; exact Int.le_refl _
      | succ b ih =>
        intro hb
        by_cases h : a = b + 1
        · subst h; exact Int.le_refl _
        · have h1 := ih (by omega) (by omega)
          have h2 := hs (b + 1) (by omega) (by omega)
          simp only [Nat.add_sub_cancel] at h2
          omega
    have hlen : (pos.take n).length = n := by rw [List.length_take]; omega
    have d : decide ((p : Int) < ((ints (pos.take n)).length : Int)) = true := decide_eq_true (by rw [ints_len, hlen]; omega)
    have m1 := mono 0 p (by omega) (by omega)
    have m2 := mono p (p + 1) (by omega) (by omega)
    have m3 := mono (p + 1) n (by omega) (Nat.le_refl _)
    obtain ⟨a, ea⟩ : ∃ a : Nat, nth pos p = (a : Int) := ⟨(nth pos p).toNat, by omega⟩
    obtain ⟨b, eb⟩ : ∃ b : Nat, nth pos (p + 1) = (b : Int) := ⟨(nth pos (p + 1)).toNat, by omega⟩
    have hcut : nth (pos.take n) p = (a : Int) := by rw [nth_take (by omega) (by omega), ea]
    rw [L36_10_eq, RL36_10, d, ct, needNat, Int.toNat_natCast, getI (by rw [hlen]; omega), natWrap (by omega), needNat, Int.toNat_natCast, getI (by omega), hcut, eb, cutI (by omega) (by omega)]
    have hpl : ((crd.take b).drop a).length = b - a := by rw [List.length_drop, List.length_take]; omega
    have hpn : ∀ j, j < b - a → nth ((crd.take b).drop a) j = nth crd (a + j) := fun j hj => by
      rw [nth_drop (by rw [List.length_take]; omega), nth_take (by omega) (by omega)]
    have hpr : ∀ c ∈ (crd.take b).drop a, 0 ≤ c ∧ c < 2147483648 := fun c hc => hr c (List.mem_of_mem_take (List.mem_of_mem_drop hc))
    obtain ⟨bb, g1, g2⟩ := L36_10_spec least z1 z2 hr hb n hn hn2 hs h0 hl m (p + 1) (by omega)
    have conv : (∀ j, 1 ≤ j → j < ((crd.take b).drop a).length → least ≤ nth ((crd.take b).drop a) j - nth ((crd.take b).drop a) (j - 1)) ↔ (∀ i : Nat, nth pos p < (i : Int) → (i : Int) < nth pos (p + 1) → least ≤ nth crd i - nth crd (i - 1)) := by
      rw [hpl, ea, eb]
      constructor
      · intro h i h1 h2
        have := h (i - a) (by omega) (by omega)
        rw [hpn _ (by omega), hpn _ (by omega)] at this
        have e1 : a + (i - a) = i := by omega
        have e2 : a + (i - a - 1) = i - 1 := by omega
        rw [e1, e2] at this
        exact this
      · intro h j h1 h2
        have := h (a + j) (by omega) (by omega)
        rw [hpn _ (by omega), hpn _ (by omega)]
        have e2 : a + (j - 1) = a + j - 1 := by omega
        rw [e2]
        exact this
    have tail : (∀ q, p ≤ q → q < n → ∀ i : Nat, nth pos q < (i : Int) → (i : Int) < nth pos (q + 1) → least ≤ nth crd i - nth crd (i - 1)) ↔ (∀ i : Nat, nth pos p < (i : Int) → (i : Int) < nth pos (p + 1) → least ≤ nth crd i - nth crd (i - 1)) ∧ (∀ q, p + 1 ≤ q → q < n → ∀ i : Nat, nth pos q < (i : Int) → (i : Int) < nth pos (q + 1) → least ≤ nth crd i - nth crd (i - 1)) := by
      constructor
      · intro h; exact ⟨h p (Nat.le_refl _) (by omega), fun q h1 h2 => h q (by omega) h2⟩
      · rintro ⟨h1, h2⟩ q h3 h4
        by_cases hq : q = p
        · subst hq; exact h1
        · exact h2 q (by omega) h4
    rw [tail, ← conv]
    by_cases hone : b - a = 0
    · have d2 : decide ((1 : Int) < ((ints ((crd.take b).drop a)).length : Int)) = false := decide_eq_false (by rw [ints_len, hpl]; omega)
      rw [L36_14_eq, RL36_14, d2, cf, natWrap (by omega)]
      refine ⟨bb, g1, g2.trans ⟨fun h => ⟨fun j h1 h2 => by omega, h⟩, fun h => h.2⟩⟩
    · have e1 : (1 : Int) = ((1 : Nat) : Int) := rfl
      rw [e1]
      rcases L36_14_spec (k := k) (s := s) (pz := pz) (cz := cz) least cz z1 ((crd.take b).drop a) (ints (pos.take n)) ((ints (pos.take n)).length : Int) (p : Int) (ints pos) (ints crd) hpr (by rw [hpl]; omega) (b - a - 1) 1 (by rw [hpl]; omega) (Nat.le_refl _) with ⟨⟨j, h1, h2, h3⟩, h4⟩ | ⟨h1, h2⟩
      · refine ⟨false, h4, by constructor
                              · intro h; cases h
                              · rintro ⟨h5, _⟩
                                have := h5 j h1 h2
                                omega⟩
      · rw [h2, natWrap (by omega)]
        exact ⟨bb, g1, g2.trans ⟨fun h => ⟨h1, h⟩, fun h => h.2⟩⟩
/-- Which level may be. -/
structure Valid (k s : Int) (pos crd : List Int) (ahead : Int) : Prop where
  a0 : 0 ≤ ahead
  a1 : ahead ≤ 1048576
  s0 : 0 ≤ s
  s1 : s ≤ 2147483648
  form : Formed k s pos crd ahead
  many : crd.length ≤ 65536
  below : belowN k s crd ahead ≤ 1048576
  rng : ∀ c ∈ crd, 0 ≤ c ∧ c < s
  rise : k = 1 ∨ k = 2 → Rise (if k = 2 then 0 else 1) pos crd ahead.toNat
theorem rising36 (ahead : Nat) (ha : ahead ≤ 1048576) (hf : Formed k s pos crd (ahead : Int)) (hr : ∀ c ∈ crd, 0 ≤ c ∧ c < 2147483648) (hb : crd.length ≤ 65536) :
    ∃ b, vr 36 0 [.t (lvT k s pz pos cz crd)] e0 = some (.t (.bool b), e0) ∧ (b = true ↔ (k = 1 ∨ k = 2 → Rise (if k = 2 then 0 else 1) pos crd ahead)) := by
  have J9 : ∀ least : Int, (k = 1 ∨ k = 2) → ∃ b, J36_9 least k s pz (ints pos) cz (ints crd) = some (.t (.bool b), e0) ∧ (b = true ↔ Rise least pos crd ahead) := by
    intro least hk
    rcases hf with ⟨h, _⟩ | ⟨h, _⟩ | ⟨_, h1, h2, h3, h4⟩
    · omega
    · omega
    · rw [Int.toNat_natCast] at h3
      have hl : pos.length = ahead + 1 := by omega
      have hw : IntKind.i64.wrap ((pos.length : Int) - 1) = (ahead : Int) := by rw [wrap64 (by omega) (by omega)]; omega
      rw [J36_9_eq, RJ36_9, ints_len, hw, cutI0 (by omega)]
      obtain ⟨b, g1, g2⟩ := L36_10_spec (k := k) (s := s) (pz := pz) (cz := cz) least pz pz hr hb ahead hl ha h4 h2 h3 ahead 0 (by omega)
      refine ⟨b, g1, g2.trans ⟨fun h p h5 => h p (Nat.zero_le _) h5, fun h q _ h5 => h q h5⟩⟩
  rw [eq36, R36]
  by_cases h2 : k = 2
  · subst h2
    obtain ⟨b, g1, g2⟩ := J9 0 (.inr rfl)
    rw [decide_eq_true rfl, ct]
    exact ⟨b, g1, by rw [g2]; simp⟩
  · rw [decide_eq_false h2, cf]
    by_cases h3 : k = 3
    · rw [decide_eq_true h3, ct]
      exact ⟨true, rfl, by simp; omega⟩
    · rw [decide_eq_false h3, cf]
      by_cases h0 : k = 0
      · rw [decide_eq_true h0, ct]
        exact ⟨true, rfl, by simp; omega⟩
      · rw [decide_eq_false h0, cf]
        by_cases h4 : k = 4
        · rw [decide_eq_true h4, ct]
          exact ⟨true, rfl, by simp; omega⟩
        · rw [decide_eq_false h4, cf]
          have hk : k = 1 := by
            rcases hf with ⟨h, _⟩ | ⟨h, _⟩ | ⟨h, _⟩ <;> omega
          subst hk
          obtain ⟨b, g1, g2⟩ := J9 1 (.inl rfl)
          exact ⟨b, g1, by rw [g2]; simp⟩
open Classical in
/-- What is wrong with a level: the first thing. -/
noncomputable def checkE (k s : Int) (pos crd : List Int) (n : Int) : Int :=
  if n < 0 ∨ 1048576 < n ∨ s < 0 ∨ 2147483648 < s then 1
  else if ¬ Formed k s pos crd n then 1
  else if 65536 < (crd.length : Int) ∨ 1048576 < belowN k s crd n then 2
  else if ∃ c ∈ crd, c < 0 ∨ s ≤ c then 3
  else if ¬ (k = 1 ∨ k = 2 → Rise (if k = 2 then 0 else 1) pos crd n.toNat) then 1
  else 0
theorem checkE1 {n : Int} (h : n < 0 ∨ 1048576 < n ∨ s < 0 ∨ 2147483648 < s) : checkE k s pos crd n = 1 := by
  unfold checkE
  rw [if_pos h]
theorem checkE2 {n : Int} (h : ¬ (n < 0 ∨ 1048576 < n ∨ s < 0 ∨ 2147483648 < s)) (h2 : ¬ Formed k s pos crd n) : checkE k s pos crd n = 1 := by
  unfold checkE
  rw [if_neg h, if_pos h2]
theorem checkE3 {n : Int} (h : ¬ (n < 0 ∨ 1048576 < n ∨ s < 0 ∨ 2147483648 < s)) (h2 : Formed k s pos crd n) (h3 : 65536 < (crd.length : Int) ∨ 1048576 < belowN k s crd n) : checkE k s pos crd n = 2 := by
  unfold checkE
  rw [if_neg h, if_neg (fun hn => hn h2), if_pos h3]
theorem checkE4 {n : Int} (h : ¬ (n < 0 ∨ 1048576 < n ∨ s < 0 ∨ 2147483648 < s)) (h2 : Formed k s pos crd n) (h3 : ¬ (65536 < (crd.length : Int) ∨ 1048576 < belowN k s crd n)) (h4 : ∃ c ∈ crd, c < 0 ∨ s ≤ c) : checkE k s pos crd n = 3 := by
  unfold checkE
  rw [if_neg h, if_neg (fun hn => hn h2), if_neg h3, if_pos h4]
theorem checkE5 {n : Int} (h : ¬ (n < 0 ∨ 1048576 < n ∨ s < 0 ∨ 2147483648 < s)) (h2 : Formed k s pos crd n) (h3 : ¬ (65536 < (crd.length : Int) ∨ 1048576 < belowN k s crd n)) (h4 : ¬ ∃ c ∈ crd, c < 0 ∨ s ≤ c) (h5 : ¬ (k = 1 ∨ k = 2 → Rise (if k = 2 then 0 else 1) pos crd n.toNat)) : checkE k s pos crd n = 1 := by
  unfold checkE
  rw [if_neg h, if_neg (fun hn => hn h2), if_neg h3, if_neg h4, if_pos h5]
theorem checkE0 {n : Int} (h : ¬ (n < 0 ∨ 1048576 < n ∨ s < 0 ∨ 2147483648 < s)) (h2 : Formed k s pos crd n) (h3 : ¬ (65536 < (crd.length : Int) ∨ 1048576 < belowN k s crd n)) (h4 : ¬ ∃ c ∈ crd, c < 0 ∨ s ≤ c) (h5 : k = 1 ∨ k = 2 → Rise (if k = 2 then 0 else 1) pos crd n.toNat) : checkE k s pos crd n = 0 := by
  unfold checkE
  rw [if_neg h, if_neg (fun hn => hn h2), if_neg h3, if_neg h4, if_neg (fun hn => hn h5)]
theorem check19 (ahead : Int) (hp : pos.length ≤ 9223372036854775807) (hc : crd.length ≤ 9223372036854775806) : ∃ e : Int, vr 19 0 [.t (lvT k s pz pos cz crd), .t (.int .i64 ahead)] e0 = some (.t (.int .i64 e), e0) ∧ (e = 0 ↔ Valid k s pos crd ahead) ∧ 0 ≤ e ∧ e ≤ 3 ∧ e = checkE k s pos crd ahead := by
  rw [eq19, R19]
  have no : ∀ e : Int, 1 ≤ e → e ≤ 3 → ¬ Valid k s pos crd ahead → checkE k s pos crd ahead = e → ∃ e' : Int, (some (V.t (.int .i64 e), e0) : Option Res) = some (.t (.int .i64 e'), e0) ∧ (e' = 0 ↔ Valid k s pos crd ahead) ∧ 0 ≤ e' ∧ e' ≤ 3 ∧ e' = checkE k s pos crd ahead := by
    intro e h1 h2 h3 h4
    refine ⟨e, rfl, ⟨fun h => ?_, fun h => absurd h h3⟩, by omega, h2, h4.symm⟩
    omega
  by_cases g1 : ahead < 0
  · rw [decide_eq_true g1, ct]; exact no 1 (by omega) (by omega) (fun h => by have := h.a0; omega) (checkE1 (by omega))
  rw [decide_eq_false g1, cf]
  by_cases g2 : 1048576 < ahead
  · rw [decide_eq_true g2, ct]; exact no 1 (by omega) (by omega) (fun h => by have := h.a1; omega) (checkE1 (by omega))
  rw [decide_eq_false g2, cf]
  by_cases g3 : s < 0
  · rw [decide_eq_true g3, ct]; exact no 1 (by omega) (by omega) (fun h => by have := h.s0; omega) (checkE1 (by omega))
  rw [decide_eq_false g3, cf]
  by_cases g4 : 2147483648 < s
  · rw [decide_eq_true g4, ct]; exact no 1 (by omega) (by omega) (fun h => by have := h.s1; omega) (checkE1 (by omega))
  rw [decide_eq_false g4, cf]
  obtain ⟨n, rfl⟩ : ∃ n : Nat, ahead = (n : Int) := ⟨ahead.toNat, by omega⟩
  obtain ⟨b, h1, h2⟩ := formed33 (k := k) (s := s) (pz := pz) (cz := cz) (pos := pos) (crd := crd) n (by omega) hp
  rw [h1, callK_some, asT_t, asB_bool, endB_nil]
  cases b with
  | false =>
    rw [bNF, ct]
    exact no 1 (by omega) (by omega) (fun h => by have := h2.2 h.form; cases this) (checkE2 (by omega) fun h => by have := h2.2 h; cases this)
  | true =>
    have hform := h2.1 rfl
    rw [bNT, cf, ints_len]
    by_cases g5 : (65536 : Int) < (crd.length : Int)
    · rw [decide_eq_true g5, ct]; exact no 2 (by omega) (by omega) (fun h => by have := h.many; omega) (checkE3 (by omega) hform (.inl g5))
    rw [decide_eq_false g5, cf, below29 n (by omega) (by omega) (by omega), callK_some, asT_t, asI_int, endB_nil]
    by_cases g6 : 1048576 < belowN k s crd (n : Int)
    · rw [decide_eq_true g6, ct]; exact no 2 (by omega) (by omega) (fun h => by have := h.below; omega) (checkE3 (by omega) hform (.inr g6))
    obtain ⟨b2, h3, h4⟩ := contains34 (k := k) (s := s) (pz := pz) (cz := cz) (crd := crd) cz (ints pos) (ints crd) hc
    rw [decide_eq_false g6, cf, h3, callK_some, asT_t, asB_bool]
    simp only [callK_some, asT_t, asI_int, asB_bool, asS_str, asL_list, asA_agg, consT_cons, endT_nil, asG_agg, asTup_tup, consV_cons, endV_nil, endB_nil, consB_cons, asArr_arr, asAv_av, asMp_map, asVar_var, isBuf_buf, isPtr_ptr, needC_t, ct, cf, bNT, bNF, bTA, bAT, bFA, bAF, bTO, bOT, bFO, bOF, dT, dF]
    cases b2 with
    | true =>
      rw [ct]
      obtain ⟨j, h5, h6⟩ := h4.1 rfl
      refine no 3 (by omega) (by omega) (fun h => ?_) (checkE4 (by omega) hform (by omega) ⟨_, nth_mem h5, h6⟩)
      have := h.rng _ (nth_mem h5)
      omega
    | false =>
      have hrng : ∀ c ∈ crd, 0 ≤ c ∧ c < s := by
        intro c hc
        obtain ⟨j, hj⟩ := List.getElem?_of_mem hc
        have hjl : j < crd.length := (List.getElem?_eq_some_iff.1 hj).1
        rw [nth_at hjl] at hj
        cases hj
        have : ¬ (nth crd j < 0 ∨ s ≤ nth crd j) := fun h => by have := h4.2 ⟨j, hjl, h⟩; cases this
        omega
      obtain ⟨b3, h5, h6⟩ := rising36 (k := k) (s := s) (pz := pz) (cz := cz) (pos := pos) (crd := crd) n (by omega) hform (fun c hc => by have := hrng c hc; omega) (by omega)
      rw [cf, h5, callK_some, asT_t, asB_bool, endB_nil]
      cases b3 with
      | true =>
        rw [bNT, cf]
        refine ⟨0, rfl, ⟨fun _ => ⟨by omega, by omega, by omega, by omega, hform, by omega, by omega, hrng, by rw [Int.toNat_natCast]; exact h6.1 rfl⟩, fun _ => rfl⟩, by omega, by omega, (checkE0 (by omega) hform (by omega) (fun ⟨c, h7, h8⟩ => by have := hrng c h7; omega) (by rw [Int.toNat_natCast]; exact h6.1 rfl)).symm⟩
      | false =>
        rw [bNF, ct]
        have h8 : ¬ (k = 1 ∨ k = 2 → Rise (if k = 2 then 0 else 1) pos crd ((n : Int)).toNat) := fun h => by
          rw [Int.toNat_natCast] at h
          have := h6.2 h
          cases this
        exact no 1 (by omega) (by omega) (fun h => h8 h.rise) (checkE5 (by omega) hform (by omega) (fun ⟨c, h7, h9⟩ => by have := hrng c h7; omega) h8)
end
end Go.Proofs.Ytejfkiohnoiagaa.VM
end

section
namespace Go.Proofs.Ytejfkiohnoiagaa.VM
set_option linter.unusedSectionVars false
open Go AM
theorem half (i j : Nat) (h : i + j < 4611686018427387904) : IntKind.i64.wrap (shrI .u64 (IntKind.u64.wrap (IntKind.i64.wrap ((i : Int) + (j : Int)))) 1) = (((i + j) / 2 : Nat) : Int) := by
  rw [wrap64 (n := (i : Int) + (j : Int)) (by omega) (by omega), IntKind.wrap_u64]
  have e : shrI .u64 (((i : Int) + (j : Int)) % 18446744073709551616) 1 = (((i + j) / 2 : Nat) : Int) := by
    unfold shrI
    have e2 : (2 : Int) ^ (min (1 : Int).toNat IntKind.u64.bits) = 2 := rfl
    rw [e2, Int.fdiv_eq_ediv_of_nonneg _ (by omega)]
    omega
  rw [e, wrap64 (by omega) (by omega)]
/-- slices.BinarySearch over what rises. -/
theorem L37_spec (z : Bool) (l : List Int) (t : Int) (hb : l.length ≤ 70000) (hs : ∀ a b, a ≤ b → b < l.length → nth l a ≤ nth l b) : ∀ (d i j : Nat), j - i = d → i ≤ j → j ≤ l.length → (∀ a, a < i → nth l a < t) → (∀ a, j ≤ a → a < l.length → t ≤ nth l a) →
    ∃ r : Nat, L37_3 z (ints l) t (l.length : Int) (i : Int) (j : Int) = some (.tup [.t (.int .i64 (r : Int)), .t (.bool (decide (r < l.length) && decide (nth l r = t)))], e0) ∧ r ≤ l.length ∧ (∀ a, a < r → nth l a < t) ∧ (∀ a, r ≤ a → a < l.length → t ≤ nth l a) := by
  intro d
  induction d using Nat.strongRecOn with
  | ind d ih =>
    intro i j hd hij hj h1 h2
    rw [L37_3_eq, RL37_3]
    by_cases hlt : i < j
    · have d1 : decide ((i : Int) < (j : Int)) = true := decide_eq_true (by omega)
      rw [d1, ct, half i j (by omega), needNat, Int.toNat_natCast, getI (by omega), less45, callK_some, asT_t, asB_bool, endB_nil]
      by_cases hc : nth l ((i + j) / 2) < t
      · rw [decide_eq_true hc, ct, natWrap (by omega)]
        refine ih (j - ((i + j) / 2 + 1)) (by omega) ((i + j) / 2 + 1) j rfl (by omega) hj (fun a ha => ?_) h2
        have := hs a ((i + j) / 2) (by omega) (by omega)
        omega
      · rw [decide_eq_false hc, cf]
        refine ih ((i + j) / 2 - i) (by omega) i ((i + j) / 2) rfl (by omega) (by omega) h1 (fun a ha hal => ?_)
        have := hs ((i + j) / 2) a ha hal
        omega
    · have hi : i = j := by omega
      subst hi
      have d1 : decide ((i : Int) < (i : Int)) = false := decide_eq_false (by omega)
      rw [d1, cf]
      refine ⟨i, ?_, hj, h1, h2⟩
      by_cases hl : i < l.length
      · have d2 : decide ((i : Int) < (l.length : Int)) = true := decide_eq_true (by omega)
        rw [d2, ct, needNat, Int.toNat_natCast, getI hl, decide_eq_true hl, bTA]
        by_cases he : nth l i = t
        · rw [decide_eq_true he, ct]
        · rw [decide_eq_false he, cf, needNat, getI hl, nan46, callK_some, asT_t, asB_bool, endB_nil, cf]
      · have d2 : decide ((i : Int) < (l.length : Int)) = false := decide_eq_false (by omega)
        rw [d2, cf, decide_eq_false hl, bFA]
theorem search37 (z : Bool) (l : List Int) (t : Int) (hb : l.length ≤ 70000) (hs : ∀ a b, a ≤ b → b < l.length → nth l a ≤ nth l b) :
    ∃ r : Nat, vr 37 0 [.t (.list 1 z (ints l)), .t (.int .i64 t)] e0 = some (.tup [.t (.int .i64 (r : Int)), .t (.bool (decide (r < l.length) && decide (nth l r = t)))], e0) ∧ r ≤ l.length ∧ (∀ a, a < r → nth l a < t) ∧ (∀ a, r ≤ a → a < l.length → t ≤ nth l a) := by
  rw [eq37, R37, ints_len]
  exact L37_spec z l t hb hs l.length 0 l.length rfl (by omega) (Nat.le_refl _) (fun a ha => by omega) (fun a h1 h2 => by omega)
theorem cmp39 (a b : Int) : vr 39 0 [.t (.int .i64 a), .t (.int .i64 b)] e0 = some (.t (.int .i64 (if a ≤ b then -1 else 1)), e0) := by
  rw [eq39, R39]
  by_cases h : a ≤ b
  · rw [decide_eq_true h, if_pos h, ct]
  · rw [decide_eq_false h, if_neg h, cf]
theorem L38_spec (z : Bool) (l : List Int) (t : Int) (hb : l.length ≤ 2000000) (hs : ∀ a b, a ≤ b → b < l.length → nth l a ≤ nth l b) : ∀ (d i j : Nat), j - i = d → i ≤ j → j ≤ l.length → (∀ a, a < i → nth l a ≤ t) → (∀ a, j ≤ a → a < l.length → t < nth l a) →
    ∃ (r : Nat) (b : Bool), L38_3 z (ints l) t (l.length : Int) (i : Int) (j : Int) = some (.tup [.t (.int .i64 (r : Int)), .t (.bool b)], e0) ∧ r ≤ l.length ∧ (∀ a, a < r → nth l a ≤ t) ∧ (∀ a, r ≤ a → a < l.length → t < nth l a) := by
  intro d
  induction d using Nat.strongRecOn with
  | ind d ih =>
    intro i j hd hij hj h1 h2
    rw [L38_3_eq, RL38_3]
    by_cases hlt : i < j
    · have d1 : decide ((i : Int) < (j : Int)) = true := decide_eq_true (by omega)
      rw [d1, ct, half i j (by omega), needNat, Int.toNat_natCast, getI (by omega), cmp39, callK_some, asT_t, asI_int, endB_nil]
      by_cases hc : nth l ((i + j) / 2) ≤ t
      · have d2 : decide ((-1 : Int) < 0) = true := rfl
        rw [if_pos hc, d2, ct, natWrap (by omega)]
        refine ih (j - ((i + j) / 2 + 1)) (by omega) ((i + j) / 2 + 1) j rfl (by omega) hj (fun a ha => ?_) h2
        have := hs a ((i + j) / 2) (by omega) (by omega)
        omega
      · have d2 : decide ((1 : Int) < 0) = false := rfl
        rw [if_neg hc, d2, cf]
        refine ih ((i + j) / 2 - i) (by omega) i ((i + j) / 2) rfl (by omega) (by omega) h1 (fun a ha hal => ?_)
        have := hs ((i + j) / 2) a ha hal
        omega
    · have hi : i = j := by omega
      subst hi
      have d1 : decide ((i : Int) < (i : Int)) = false := decide_eq_false (by omega)
      rw [d1, cf]
      by_cases hl : i < l.length
      · have d2 : decide ((i : Int) < (l.length : Int)) = true := decide_eq_true (by omega)
        rw [d2, ct, needNat, Int.toNat_natCast, getI hl, cmp39, callK_some, asT_t, asI_int, endB_nil]
        exact ⟨i, _, rfl, hj, h1, h2⟩
      · have d2 : decide ((i : Int) < (l.length : Int)) = false := decide_eq_false (by omega)
        rw [d2, cf]
        exact ⟨i, _, rfl, hj, h1, h2⟩
theorem searchF38 (z : Bool) (l : List Int) (t : Int) (hb : l.length ≤ 2000000) (hs : ∀ a b, a ≤ b → b < l.length → nth l a ≤ nth l b) :
    ∃ (r : Nat) (b : Bool), vr 38 0 [.t (.list 1 z (ints l)), .t (.int .i64 t), .fn 39 [] []] e0 = some (.tup [.t (.int .i64 (r : Int)), .t (.bool b)], e0) ∧ r ≤ l.length ∧ (∀ a, a < r → nth l a ≤ t) ∧ (∀ a, r ≤ a → a < l.length → t < nth l a) := by
  rw [eq38, R38, ints_len]
  exact L38_spec z l t hb hs l.length 0 l.length rfl (by omega) (Nat.le_refl _) (fun a ha => by omega) (fun a h1 h2 => by omega)
theorem sorted_le {l : List Int} (hs : Sorted l) : ∀ (b a : Nat), a ≤ b → b < l.length → nth l a ≤ nth l b
  | 0, a, h, _ => by have : a = 0 := by omega
                     subst this; exact Int.le_refl _
  | b + 1, a, h, hb => by
    by_cases e : a = b + 1
    · subst e; exact Int.le_refl _
    · have h1 := sorted_le hs b a (by omega) (by omega)
      have h2 := hs (b + 1) (by omega) hb
      simp only [Nat.add_sub_cancel] at h2
      omega
/-- Lists of numbers are the same. -/
theorem L32_spec (z1 z2 : Bool) (a b : List Int) (hl : a.length = b.length) (hb : a.length ≤ 9223372036854775806) : ∀ (m i : Nat), m + i = a.length → ∃ r, L32_4 z1 (ints a) z2 (ints b) (a.length : Int) (i : Int) = some (.t (.bool r), e0) ∧ (r = true ↔ ∀ j, i ≤ j → j < a.length → nth a j = nth b j)
  | 0, i, h => by
    have d : decide ((i : Int) < (a.length : Int)) = false := decide_eq_false (by omega)
    rw [L32_4_eq, RL32_4, d, cf]
    exact ⟨true, rfl, ⟨fun _ j h1 h2 => by omega, fun _ => rfl⟩⟩
  | m + 1, i, h => by
    have d : decide ((i : Int) < (a.length : Int)) = true := decide_eq_true (by omega)
    obtain ⟨r, h1, h2⟩ := L32_spec z1 z2 a b hl hb m (i + 1) (by omega)
    rw [L32_4_eq, RL32_4, d, ct, needNat, Int.toNat_natCast, getI (by omega), needNat, getI (by omega), natWrap (by omega), h1]
    by_cases he : nth a i = nth b i
    · rw [decide_eq_true he, bNT, cf]
      refine ⟨r, rfl, h2.trans ⟨fun h j h3 h4 => ?_, fun h j h3 h4 => h j (by omega) h4⟩⟩
      by_cases hj : j = i
      · subst hj; exact he
      · exact h j (by omega) h4
    · rw [decide_eq_false he, bNF, ct]
      exact ⟨false, rfl, ⟨fun h => (by cases h), fun h => absurd (h i (Nat.le_refl _) (by omega)) he⟩⟩
theorem L16_spec (z1 z2 : Bool) (a b : List Int) (hl : a.length = b.length) (hb : a.length ≤ 9223372036854775806) : ∀ (m i : Nat), m + i = a.length → ∃ r, L16_4 z1 (ints a) z2 (ints b) (a.length : Int) (i : Int) = some (.t (.bool r), e0) ∧ (r = true ↔ ∀ j, i ≤ j → j < a.length → nth a j = nth b j)
  | 0, i, h => by
    have d : decide ((i : Int) < (a.length : Int)) = false := decide_eq_false (by omega)
    rw [L16_4_eq, RL16_4, d, cf]
    exact ⟨true, rfl, ⟨fun _ j h1 h2 => by omega, fun _ => rfl⟩⟩
  | m + 1, i, h => by
    have d : decide ((i : Int) < (a.length : Int)) = true := decide_eq_true (by omega)
    obtain ⟨r, h1, h2⟩ := L16_spec z1 z2 a b hl hb m (i + 1) (by omega)
    rw [L16_4_eq, RL16_4, d, ct, needNat, Int.toNat_natCast, getI (by omega), needNat, getI (by omega), natWrap (by omega), h1]
    by_cases he : nth a i = nth b i
    · rw [decide_eq_true he, bNT, cf]
      refine ⟨r, rfl, h2.trans ⟨fun h j h3 h4 => ?_, fun h j h3 h4 => h j (by omega) h4⟩⟩
      by_cases hj : j = i
      · subst hj; exact he
      · exact h j (by omega) h4
    · rw [decide_eq_false he, bNF, ct]
      exact ⟨false, rfl, ⟨fun h => (by cases h), fun h => absurd (h i (Nat.le_refl _) (by omega)) he⟩⟩
theorem lenEq (a b : List Int) : decide (((ints a).length : Int) = ((ints b).length : Int)) = decide (a.length = b.length) := by
  rw [ints_len, ints_len]; exact decide_eq_decide.2 (by omega)
theorem equal32 (z1 z2 : Bool) (a b : List Int) (hb : a.length ≤ 9223372036854775806) : vr 32 0 [.t (.list 1 z1 (ints a)), .t (.list 1 z2 (ints b))] e0 = some (.t (.bool (decide (a = b))), e0) := by
  rw [eq32, R32, lenEq]
  by_cases hl : a.length = b.length
  · obtain ⟨r, h1, h2⟩ := L32_spec z1 z2 a b hl hb a.length 0 (by omega)
    rw [decide_eq_true hl, bNT, cf, ints_len]
    have e : (0 : Int) = ((0 : Nat) : Int) := rfl
    rw [e, h1]
    have : r = decide (a = b) := by
      rw [Bool.eq_iff_iff, h2, decide_eq_true_iff]
      exact ⟨fun h => nth_ext hl fun i hi => h i (Nat.zero_le _) hi, fun h j _ _ => by rw [h]⟩
    rw [this]
  · rw [decide_eq_false hl, bNF, ct, decide_eq_false (fun h => hl (by rw [h]))]
theorem equal16 (z1 z2 : Bool) (a b : List Int) (hb : a.length ≤ 9223372036854775806) : vr 16 0 [.t (.list 1 z1 (ints a)), .t (.list 1 z2 (ints b))] e0 = some (.t (.bool (decide (a = b))), e0) := by
  rw [eq16, R16, lenEq]
  by_cases hl : a.length = b.length
  · obtain ⟨r, h1, h2⟩ := L16_spec z1 z2 a b hl hb a.length 0 (by omega)
    rw [decide_eq_true hl, bNT, cf, ints_len]
    have e : (0 : Int) = ((0 : Nat) : Int) := rfl
    rw [e, h1]
    have : r = decide (a = b) := by
      rw [Bool.eq_iff_iff, h2, decide_eq_true_iff]
      exact ⟨fun h => nth_ext hl fun i hi => h i (Nat.zero_le _) hi, fun h j _ _ => by rw [h]⟩
    rw [this]
  · rw [decide_eq_false hl, bNF, ct, decide_eq_false (fun h => hl (by rw [h]))]
section
variable {k s : Int} {pz cz : Bool} {pos crd : List Int}
/-- The first child, and the first behind the last one. -/
def segA (k s : Int) (pos : List Int) (p : Nat) : Int := if k = 1 ∨ k = 2 then nth pos p else if k = 3 then p else p * s
theorem segA_whole {p : Nat} (h : whole k = true) : segA k s pos p = p * s := by
  unfold whole at h
  simp only [Bool.or_eq_true, decide_eq_true_eq] at h
  unfold segA
  rw [if_neg (by omega), if_neg (by omega)]
theorem mul_le {a b s : Int} (h : a ≤ b) (hs : 0 ≤ s) : a * s ≤ b * s := Int.mul_le_mul_of_nonneg_right h hs
/-- What holds of a level that may be: its children are numbered on. -/
theorem Valid.seg (n : Nat) (v : Valid k s pos crd (n : Int)) : segA k s pos 0 = 0 ∧ segA k s pos n = belowN k s crd (n : Int) ∧ ∀ p, p < n → segA k s pos p ≤ segA k s pos (p + 1) := by
  have hs := v.s0
  rcases v.form with ⟨h, h1, h2⟩ | ⟨h, h1, h2⟩ | ⟨h, h1, h2, h3, h4⟩
  · have hw : whole k = true := by
      unfold whole
      rcases h with rfl | ⟨rfl, _⟩ <;> rfl
    unfold belowN
    rw [if_pos hw]
    refine ⟨by rw [segA_whole hw]; simp, segA_whole hw, fun p hp => ?_⟩
    rw [segA_whole hw, segA_whole hw]
    exact mul_le (by omega) hs
  · subst h
    have hw : whole 3 = false := rfl
    unfold belowN segA
    rw [hw]
    simp
    exact ⟨by omega, fun p hp => by omega⟩
  · rw [Int.toNat_natCast] at h3
    have hw : whole k = false := by rcases h with rfl | rfl <;> rfl
    unfold belowN segA
    rw [hw]
    simp only [if_pos h, Bool.false_eq_true, if_false]
    refine ⟨h2, h3, fun p hp => ?_⟩
    have := h4 (p + 1) (by omega) (by omega)
    simpa using this
theorem Valid.mono (n : Nat) (v : Valid k s pos crd (n : Int)) : ∀ (b a : Nat), a ≤ b → b ≤ n → segA k s pos a ≤ segA k s pos b
  | 0, a, h, _ => by have : a = 0 := by omega
                     subst this; exact Int.le_refl _
  | b + 1, a, h, hb => by
    by_cases e : a = b + 1
    · subst e; exact Int.le_refl _
    · have h1 := Valid.mono n v b a (by omega) (by omega)
      have h2 := (v.seg n).2.2 b (by omega)
      omega
theorem Valid.below0 (n : Nat) (v : Valid k s pos crd (n : Int)) : 0 ≤ belowN k s crd (n : Int) := by
  have := v.mono n n 0 (by omega) (Nat.le_refl _)
  rw [(v.seg n).1, (v.seg n).2.1] at this
  exact this
theorem segment31 (n : Nat) (v : Valid k s pos crd (n : Int)) (p : Nat) (hp : p < n) : vr 31 0 [.t (lvT k s pz pos cz crd), .t (.int .i64 (p : Int))] e0 = some (.tup [.t (.int .i64 (segA k s pos p)), .t (.int .i64 (segA k s pos (p + 1)))], e0) := by
  have ha := v.a1
  have hn : IntKind.i64.wrap ((p : Int) + 1) = ((p + 1 : Nat) : Int) := natWrap (by omega)
  rw [eq31, R31, hn]
  unfold segA
  by_cases h1 : k = 1
  · have hf : (pos.length : Int) = (n : Int) + 1 := by
      rcases v.form with ⟨h, _⟩ | ⟨h, _⟩ | ⟨_, h, _⟩ <;> omega
    rw [decide_eq_true h1, ct, needNat, Int.toNat_natCast, getI (by omega), needNat, Int.toNat_natCast, getI (by omega), if_pos (.inl h1), if_pos (.inl h1)]
  · rw [decide_eq_false h1, cf]
    by_cases h2 : k = 2
    · have hf : (pos.length : Int) = (n : Int) + 1 := by
        rcases v.form with ⟨h, _⟩ | ⟨h, _⟩ | ⟨_, h, _⟩ <;> omega
      rw [decide_eq_true h2, ct, needNat, Int.toNat_natCast, getI (by omega), needNat, Int.toNat_natCast, getI (by omega), if_pos (.inr h2), if_pos (.inr h2)]
    · have hk12 : ¬ (k = 1 ∨ k = 2) := by omega
      rw [decide_eq_false h2, cf]
      simp only [if_neg hk12]
      by_cases h3 : k = 3
      · rw [decide_eq_true h3, ct]
        simp only [if_pos h3]
      · have hw : whole k = true := by
          rcases v.form with ⟨h, _⟩ | ⟨h, _⟩ | ⟨h, _⟩
          · unfold whole; rcases h with rfl | ⟨rfl, _⟩ <;> rfl
          · omega
          · omega
        have hb := v.below
        have e1 := segA_whole (s := s) (pos := pos) (p := n) hw
        have e2 := (v.seg n).2.1
        have m1 := v.mono n (p + 1) p (by omega) (by omega)
        have m2 := v.mono n n (p + 1) (by omega) (by omega)
        have m3 := v.mono n p 0 (by omega) (by omega)
        rw [(v.seg n).1] at m3
        rw [segA_whole hw] at m1 m3
        rw [segA_whole hw] at m1 m2
        rw [e2] at m2
        rw [decide_eq_false h3, cf, J31_7_eq, RJ31_7, hn, wrap64 (by omega) (by omega), wrap64 (by omega) (by omega)]
        simp only [if_neg h3]
theorem ready30 (ahead p : Int) (hp : pos.length ≤ 9223372036854775807) (hc : crd.length ≤ 9223372036854775806) : ∃ e : Int, vr 30 0 [.t (lvT k s pz pos cz crd), .t (.int .i64 ahead), .t (.int .i64 p)] e0 = some (.t (.int .i64 e), e0) ∧ (e = 0 ↔ Valid k s pos crd ahead ∧ 0 ≤ p ∧ p < ahead) := by
  obtain ⟨e, h1, h2, h3, h4⟩ := check19 (k := k) (s := s) (pz := pz) (cz := cz) (pos := pos) (crd := crd) ahead hp hc
  rw [eq30, R30, h1, callK_some, asT_t, asI_int, endB_nil]
  by_cases he : e = 0
  · have hv := h2.1 he
    rw [decide_eq_true he, bNT, cf]
    by_cases h5 : p < 0
    · rw [decide_eq_true h5, ct]
      exact ⟨5, rfl, ⟨fun h => by omega, fun h => by omega⟩⟩
    · rw [decide_eq_false h5, cf]
      by_cases h6 : ahead ≤ p
      · rw [decide_eq_true h6, ct]
        exact ⟨5, rfl, ⟨fun h => by omega, fun h => by omega⟩⟩
      · rw [decide_eq_false h6, cf]
        exact ⟨0, rfl, ⟨fun _ => ⟨hv, by omega, by omega⟩, fun _ => rfl⟩⟩
  · rw [decide_eq_false he, bNF, ct]
    exact ⟨e, rfl, ⟨fun h => absurd h he, fun h => absurd (h2.2 h.1) he⟩⟩
/-- The place of child n of one whose first child is a. -/
def atOf (k : Int) (crd : List Int) (a : Int) (n : Int) : Int := if whole k = true then n - a else nth crd n.toNat
abbrev kidT (a n : Int) : T := .agg [.int .i64 a, .int .i64 n]
/-- The children of p. -/
def kids (k s : Int) (pos crd : List Int) (p : Nat) : List T := (List.range (segA k s pos (p + 1) - segA k s pos p).toNat).map fun (j : Nat) => kidT (atOf k crd (segA k s pos p) (segA k s pos p + j)) (segA k s pos p + j)
theorem range_from (f : Nat → T) (n : Nat) : ∀ m i, m + i = n → (List.range n).map f = (List.range i).map f ++ (List.range m).map fun j => f (i + j)
  | m, i, h => by
    rw [← h, Nat.add_comm, List.range_add, List.map_append, List.map_map]
    rfl
theorem L15_spec (n : Nat) (v : Valid k s pos crd (n : Int)) (p : Nat) (hp : p < n) (a b : Nat) (ha : segA k s pos p = (a : Int)) (hb : segA k s pos (p + 1) = (b : Int)) (hbb : b ≤ 1048576) (hcb : whole k = false → b ≤ crd.length) : ∀ (m i : Nat) (z : Bool) (out : List T), m + i = b → a ≤ i → out.length ≤ 1048576 + i →
    ∃ zz, L15_7 (a : Int) (b : Int) (i : Int) k s pz (ints pos) cz (ints crd) z out = some (.tup [.t (.list 2 zz (out ++ (List.range m).map fun (j : Nat) => kidT (atOf k crd (a : Int) ((i : Int) + j)) ((i : Int) + j))), .t (.int .i64 0)], e0)
  | 0, i, z, out, h, hai, ho => by
    have d : decide ((i : Int) < (b : Int)) = false := decide_eq_false (by omega)
    rw [L15_7_eq, RL15_7, d, cf]
    exact ⟨z, by simp⟩
  | m + 1, i, z, out, h, hai, ho => by
    have d : decide ((i : Int) < (b : Int)) = true := decide_eq_true (by omega)
    have J : ∀ x : Int, x = atOf k crd (a : Int) (i : Int) → ∃ zz, J15_12 (a : Int) (b : Int) (i : Int) x k s pz (ints pos) cz (ints crd) z out = some (.tup [.t (.list 2 zz (out ++ (List.range (m + 1)).map fun (j : Nat) => kidT (atOf k crd (a : Int) ((i : Int) + j)) ((i : Int) + j))), .t (.int .i64 0)], e0) := by
      intro x hx
      have n1 : (decide ((out.length + 1) * (16 + 1) ≤ 70368744177664) && decide (16 ≤ 1048576)) = true := by rw [decide_eq_true (by omega)]; rfl
      obtain ⟨zz, h1⟩ := L15_spec n v p hp a b ha hb hbb hcb m (i + 1) (z || true) (out ++ [kidT x (i : Int)]) (by omega) (by omega) (by simp; omega)
      rw [J15_12_eq, RJ15_12, needC_true n1, natWrap (by omega)]
      refine ⟨zz, h1.trans ?_⟩
      congr 6
      rw [List.append_assoc]
      congr 1
      rw [List.range_succ_eq_map, List.map_cons, List.map_map, hx]
      simp only [List.singleton_append, Int.natCast_zero, Int.add_zero]
      congr 1
      apply List.map_congr_left
      intro j _
      simp only [Function.comp]
      have : ((i + 1 : Nat) : Int) + (j : Int) = (i : Int) + ((j + 1 : Nat) : Int) := by omega
      rw [this]
    rw [L15_7_eq, RL15_7, d, ct, whole14, callK_some, asT_t, asB_bool, endB_nil]
    cases hw : whole k with
    | false =>
      have := hcb hw
      rw [bNF, ct, needNat, Int.toNat_natCast, getI (by omega)]
      refine J _ ?_
      unfold atOf
      rw [hw, if_neg (by simp), Int.toNat_natCast]
    | true =>
      rw [bNT, cf, wrap64 (by omega) (by omega)]
      refine J _ ?_
      unfold atOf
      rw [hw, if_pos rfl]
theorem Valid.segNat (n : Nat) (v : Valid k s pos crd (n : Int)) (p : Nat) (hp : p < n) : ∃ a b : Nat, segA k s pos p = (a : Int) ∧ segA k s pos (p + 1) = (b : Int) ∧ a ≤ b ∧ b ≤ 1048576 ∧ (whole k = false → b ≤ crd.length) ∧ (b : Int) ≤ belowN k s crd (n : Int) := by
  have m0 := v.mono n p 0 (by omega) (by omega)
  have m1 := v.mono n (p + 1) p (by omega) (by omega)
  have m2 := v.mono n n (p + 1) (by omega) (Nat.le_refl _)
  have hb := v.below
  rw [(v.seg n).1] at m0
  rw [(v.seg n).2.1] at m2
  refine ⟨(segA k s pos p).toNat, (segA k s pos (p + 1)).toNat, by omega, by omega, by omega, by omega, fun hw => ?_, by omega⟩
  have : belowN k s crd (n : Int) = (crd.length : Int) := by unfold belowN; rw [hw, if_neg (by simp)]
  omega
theorem children15 (n : Nat) (v : Valid k s pos crd (n : Int)) (hp' : pos.length ≤ 9223372036854775807) (p : Nat) (hp : p < n) : ∃ zz, vr 15 0 [.t (lvT k s pz pos cz crd), .t (.int .i64 (n : Int)), .t (.int .i64 (p : Int))] e0 = some (.tup [.t (.list 2 zz (kids k s pos crd p)), .t (.int .i64 0)], e0) := by
  have hmany := v.many
  obtain ⟨e, h1, h2⟩ := ready30 (k := k) (s := s) (pz := pz) (cz := cz) (pos := pos) (crd := crd) (n : Int) (p : Int) hp' (by omega)
  have he : e = 0 := h2.2 ⟨v, by omega, by omega⟩
  subst he
  obtain ⟨a, b, ha, hb, hab, hbb, hcb, _⟩ := v.segNat n p hp
  rw [eq15, R15, h1, callK_some, asT_t, asI_int, endB_nil, decide_eq_true rfl, bNT, cf, segment31 n v p hp, callK_some]
  simp only [callK_some, asT_t, asI_int, asB_bool, asS_str, asL_list, asA_agg, consT_cons, endT_nil, asG_agg, asTup_tup, consV_cons, endV_nil, endB_nil, consB_cons, asArr_arr, asAv_av, asMp_map, asVar_var, isBuf_buf, isPtr_ptr, needC_t, ct, cf, bNT, bNF, bTA, bAT, bFA, bAF, bTO, bOT, bFO, bOF, dT, dF]
  rw [ha, hb, wrap64 (by omega) (by omega)]
  have n1 : (decide (0 ≤ 0) && decide ((0 : Int) ≤ (b : Int) - (a : Int)) && decide (((b : Int) - (a : Int)) * (16 + 1) ≤ 70368744177664)) = true := by
    rw [decide_eq_true (by omega : (0 : Int) ≤ (b : Int) - (a : Int)), decide_eq_true (by omega : ((b : Int) - (a : Int)) * (16 + 1) ≤ 70368744177664)]; rfl
  obtain ⟨zz, h3⟩ := L15_spec (pz := pz) (cz := cz) n v p hp a b ha hb hbb hcb (b - a) a true [] (by omega) (Nat.le_refl _) (by simp)
  rw [needC_true n1]
  refine ⟨zz, h3.trans ?_⟩
  unfold kids
  rw [ha, hb, List.nil_append]
  have : ((b : Int) - (a : Int)).toNat = b - a := by omega
  rw [this]
end
end Go.Proofs.Ytejfkiohnoiagaa.VM
end

section
namespace Go.Proofs.Ytejfkiohnoiagaa.VM
set_option linter.unusedSectionVars false
open Go AM
section
variable {k s : Int} {pz cz : Bool} {pos crd : List Int}
theorem below13 (n : Nat) (v : Valid k s pos crd (n : Int)) (hp : pos.length ≤ 9223372036854775807) : vr 13 0 [.t (lvT k s pz pos cz crd), .t (.int .i64 (n : Int))] e0 = some (.tup [.t (.int .i64 (belowN k s crd (n : Int))), .t (.int .i64 0)], e0) := by
  have hm := v.many
  have ha := v.a1
  obtain ⟨e, h1, h2, _⟩ := check19 (k := k) (s := s) (pz := pz) (cz := cz) (pos := pos) (crd := crd) (n : Int) hp (by omega)
  have he : e = 0 := h2.2 v
  subst he
  rw [eq13, R13, h1, callK_some, asT_t, asI_int, endB_nil, decide_eq_true rfl, bNT, cf, below29 n (by omega) v.s0 v.s1, callK_some, asT_t, asI_int, endB_nil]
theorem rwhole21 : vr 21 0 [.t (lvT k s pz pos cz crd)] e0 = some (.t (.bool (whole k)), e0) := by
  rw [eq21, R21]
  unfold whole
  cases decide (k = 0) <;> rfl
theorem few18 (ahead : Int) : ∃ b, vr 18 0 [.t (lvT k s pz pos cz crd), .t (.int .i64 ahead)] e0 = some (.t (.bool b), e0) ∧ (b = true → pos.length ≤ 70000 ∧ crd.length ≤ 70000) := by
  rw [eq18, R18, ints_len, ints_len]
  by_cases h1 : (pos.length : Int) ≤ 70000
  · rw [decide_eq_true h1, ct]
    by_cases h2 : (crd.length : Int) ≤ 70000
    · rw [decide_eq_true h2, ct, rwhole21, callK_some, asT_t, asB_bool, endB_nil]
      have h3 : pos.length ≤ 70000 ∧ crd.length ≤ 70000 := by omega
      cases whole k <;> cases decide (s ≤ 5000) <;> exact ⟨_, rfl, fun _ => h3⟩
    · rw [decide_eq_false h2, cf]
      exact ⟨false, rfl, fun h => by cases h⟩
  · rw [decide_eq_false h1, cf]
    exact ⟨false, rfl, fun h => by cases h⟩
/-- Places of one's children do not fall. -/
theorem Valid.rising (n : Nat) (v : Valid k s pos crd (n : Int)) (hw : whole k = false) (p : Nat) (hp : p < n) (a b : Nat) (ha : segA k s pos p = (a : Int)) (hb : segA k s pos (p + 1) = (b : Int)) (hbl : b ≤ crd.length) : ∀ (y x : Nat), a ≤ x → x ≤ y → y < b → nth crd x ≤ nth crd y := by
  have step : ∀ i, a < i → i < b → nth crd (i - 1) ≤ nth crd i := by
    intro i h1 h2
    rcases v.form with ⟨h, _⟩ | ⟨h, _⟩ | ⟨h, h3⟩
    · exfalso; unfold whole at hw; rcases h with rfl | ⟨rfl, _⟩ <;> simp at hw
    · subst h
      have e1 : segA 3 s pos p = (p : Int) := rfl
      have e2 : segA 3 s pos (p + 1) = ((p + 1 : Nat) : Int) := rfl
      omega
    · have hr := v.rise h p (by omega) i
      have e1 : segA k s pos p = nth pos p := by unfold segA; rw [if_pos h]
      have e2 : segA k s pos (p + 1) = nth pos (p + 1) := by unfold segA; rw [if_pos h]
      have := hr (by omega) (by omega)
      split at this <;> omega
  intro y
  induction y with
  | zero => intro x h1 h2 h3; have : x = 0 := by omega
            subst this; exact Int.le_refl _
  | succ y ih =>
    intro x h1 h2 h3
    by_cases e : x = y + 1
    · subst e; exact Int.le_refl _
    · have h4 := ih x h1 (by omega) (by omega)
      have h5 := step (y + 1) (by omega) h3
      simp only [Nat.add_sub_cancel] at h5
      omega
theorem atOf_rising (n : Nat) (v : Valid k s pos crd (n : Int)) (p : Nat) (hp : p < n) (a b : Nat) (ha : segA k s pos p = (a : Int)) (hb : segA k s pos (p + 1) = (b : Int)) (hcb : whole k = false → b ≤ crd.length) (x y : Nat) (h1 : a ≤ x) (h2 : x ≤ y) (h3 : y < b) : atOf k crd (a : Int) (x : Int) ≤ atOf k crd (a : Int) (y : Int) := by
  unfold atOf
  cases hw : whole k with
  | true => simp only [if_true]; omega
  | false =>
    simp only [Bool.false_eq_true, if_false, Int.toNat_natCast]
    exact v.rising n hw p hp a b ha hb (hcb hw) y x h1 h2 h3
/-- What is found of p at a place: the first child there. -/
theorem find20 (n : Nat) (v : Valid k s pos crd (n : Int)) (hp' : pos.length ≤ 9223372036854775807) (p : Nat) (hp : p < n) (t : Int) (a b : Nat) (ha : segA k s pos p = (a : Int)) (hb : segA k s pos (p + 1) = (b : Int)) (hab : a ≤ b) (hbb : b ≤ 1048576) (hcb : whole k = false → b ≤ crd.length) :
    (∃ m : Nat, vr 20 0 [.t (lvT k s pz pos cz crd), .t (.int .i64 (n : Int)), .t (.int .i64 (p : Int)), .t (.int .i64 t)] e0 = some (.tup [.t (.int .i64 (m : Int)), .t (.bool true), .t (.int .i64 0)], e0) ∧ a ≤ m ∧ m < b ∧ atOf k crd (a : Int) (m : Int) = t ∧ ∀ m', a ≤ m' → m' < m → atOf k crd (a : Int) (m' : Int) < t) ∨
    (vr 20 0 [.t (lvT k s pz pos cz crd), .t (.int .i64 (n : Int)), .t (.int .i64 (p : Int)), .t (.int .i64 t)] e0 = some (.tup [.t (.int .i64 0), .t (.bool false), .t (.int .i64 0)], e0) ∧ ∀ m : Nat, a ≤ m → m < b → atOf k crd (a : Int) (m : Int) ≠ t) := by
  have hmany := v.many
  obtain ⟨e, h1, h2⟩ := ready30 (k := k) (s := s) (pz := pz) (cz := cz) (pos := pos) (crd := crd) (n : Int) (p : Int) hp' (by omega)
  have he : e = 0 := h2.2 ⟨v, by omega, by omega⟩
  subst he
  have J0 : ∀ (i : Int) (w : Nat), i = (w : Int) → w ≤ 2147483648 → J20_8 (a : Int) i true = some (.tup [.t (.int .i64 ((a + w : Nat) : Int)), .t (.bool true), .t (.int .i64 0)], e0) := by
    intro i w hi hw
    subst hi
    rw [J20_8_eq, RJ20_8, bNT, cf, wrap64 (by omega) (by omega), Int.natCast_add]
  have J1 : ∀ i : Int, J20_8 (a : Int) i false = some (.tup [.t (.int .i64 0), .t (.bool false), .t (.int .i64 0)], e0) := by
    intro i
    rw [J20_8_eq, RJ20_8, bNF, ct]
  rw [eq20, R20, h1, callK_some, asT_t, asI_int, endB_nil, decide_eq_true rfl, bNT, cf, segment31 n v p hp, callK_some]
  simp only [callK_some, asT_t, asI_int, asB_bool, asS_str, asL_list, asA_agg, consT_cons, endT_nil, asG_agg, asTup_tup, consV_cons, endV_nil, endB_nil, consB_cons, asArr_arr, asAv_av, asMp_map, asVar_var, isBuf_buf, isPtr_ptr, needC_t, ct, cf, bNT, bNF, bTA, bAT, bFA, bAF, bTO, bOT, bFO, bOF, dT, dF]
  rw [ha, hb, whole14]
  simp only [callK_some, asT_t, asI_int, asB_bool, asS_str, asL_list, asA_agg, consT_cons, endT_nil, asG_agg, asTup_tup, consV_cons, endV_nil, endB_nil, consB_cons, asArr_arr, asAv_av, asMp_map, asVar_var, isBuf_buf, isPtr_ptr, needC_t, ct, cf, bNT, bNF, bTA, bAT, bFA, bAF, bTO, bOT, bFO, bOF, dT, dF]
  cases hw : whole k with
  | true =>
    have hs : (b : Int) - (a : Int) = s := by
      rw [← ha, ← hb, segA_whole hw, segA_whole hw, Int.natCast_add, Int.add_mul]; omega
    have hv := v.s1
    simp only [callK_some, asT_t, asI_int, asB_bool, asS_str, asL_list, asA_agg, consT_cons, endT_nil, asG_agg, asTup_tup, consV_cons, endV_nil, endB_nil, consB_cons, asArr_arr, asAv_av, asMp_map, asVar_var, isBuf_buf, isPtr_ptr, needC_t, ct, cf, bNT, bNF, bTA, bAT, bFA, bAF, bTO, bOT, bFO, bOF, dT, dF]
    unfold atOf
    rw [hw]
    simp only [if_true]
    by_cases h0 : 0 ≤ t
    · rw [decide_eq_true h0, ct]
      by_cases hts : t < s
      · rw [decide_eq_true hts]
        left
        refine ⟨a + t.toNat, ?_, by omega, by omega, by omega, fun m' _ _ => by omega⟩
        exact J0 t t.toNat (by omega) (by omega)
      · rw [decide_eq_false hts, J1]
        exact .inr ⟨rfl, fun m h3 h4 => by omega⟩
    · rw [decide_eq_false h0, cf, J1]
      exact .inr ⟨rfl, fun m h3 h4 => by omega⟩
  | false =>
    have hbl := hcb hw
    simp only [callK_some, asT_t, asI_int, asB_bool, asS_str, asL_list, asA_agg, consT_cons, endT_nil, asG_agg, asTup_tup, consV_cons, endV_nil, endB_nil, consB_cons, asArr_arr, asAv_av, asMp_map, asVar_var, isBuf_buf, isPtr_ptr, needC_t, ct, cf, bNT, bNF, bTA, bAT, bFA, bAF, bTO, bOT, bFO, bOF, dT, dF]
    rw [cutI hab hbl]
    have hlen : ((crd.take b).drop a).length = b - a := by rw [List.length_drop, List.length_take]; omega
    have hpn : ∀ j, j < b - a → nth ((crd.take b).drop a) j = nth crd (a + j) := fun j hj => by
      rw [nth_drop (by rw [List.length_take]; omega), nth_take (by omega) (by omega)]
    obtain ⟨r, h3, h4, h5, h6⟩ := search37 cz ((crd.take b).drop a) t (by omega) (fun x y hx hy => by
      rw [hlen] at hy
      rw [hpn x (by omega), hpn y hy]
      exact v.rising n hw p hp a b ha hb hbl (a + y) (a + x) (by omega) (by omega) (by omega))
    rw [h3]
    simp only [callK_some, asT_t, asI_int, asB_bool, asS_str, asL_list, asA_agg, consT_cons, endT_nil, asG_agg, asTup_tup, consV_cons, endV_nil, endB_nil, consB_cons, asArr_arr, asAv_av, asMp_map, asVar_var, isBuf_buf, isPtr_ptr, needC_t, ct, cf, bNT, bNF, bTA, bAT, bFA, bAF, bTO, bOT, bFO, bOF, dT, dF]
    rw [hlen] at h4 h6 ⊢
    have fin : ∀ q : Option Res, q = J20_8 (a : Int) (r : Int) (decide (r < b - a) && decide (nth ((crd.take b).drop a) r = t)) → True := fun _ _ => trivial
    have both : ∀ x : Option Res, (bif decide (0 ≤ t) then x else x) = x := fun x => by cases decide (0 ≤ t) <;> rfl
    rw [both]
    unfold atOf
    rw [hw]
    simp only [Bool.false_eq_true, if_false, Int.toNat_natCast]
    by_cases hf : r < b - a ∧ nth ((crd.take b).drop a) r = t
    · rw [decide_eq_true hf.1, decide_eq_true hf.2, bTA]
      left
      refine ⟨a + r, J0 _ r rfl (by omega), by omega, by omega, ?_, fun m' h7 h8 => ?_⟩
      · rw [← hpn r hf.1]; exact hf.2
      · have := h5 (m' - a) (by omega)
        rw [hpn _ (by omega)] at this
        have e1 : a + (m' - a) = m' := by omega
        rw [e1] at this
        exact this
    · have : (decide (r < b - a) && decide (nth ((crd.take b).drop a) r = t)) = false := by
        cases h9 : (decide (r < b - a) && decide (nth ((crd.take b).drop a) r = t)) with
        | false => rfl
        | true => simp only [Bool.and_eq_true, decide_eq_true_eq] at h9; exact absurd h9 hf
      rw [this, J1]
      refine .inr ⟨rfl, fun m h7 h8 => ?_⟩
      have e1 : a + (m - a) = m := by omega
      rcases Nat.lt_or_ge (m - a) r with h9 | h9
      · have := h5 (m - a) h9
        rw [hpn _ (by omega), e1] at this
        omega
      · have h10 := h6 (m - a) h9 (by omega)
        rw [hpn _ (by omega), e1] at h10
        intro h11
        have hr : r < b - a := by omega
        have h12 := h6 r (Nat.le_refl _) hr
        have h13 := v.rising n hw p hp a b ha hb hbl m (a + r) (by omega) (by omega) (by omega)
        rw [hpn r hr] at h12
        exact hf ⟨hr, by rw [hpn r hr]; omega⟩
/-- Whose a child is, and where. -/
theorem parent22 (n : Nat) (v : Valid k s pos crd (n : Int)) (hp' : pos.length ≤ 9223372036854775807) (p : Nat) (hp : p < n) (m : Nat) (a b : Nat) (ha : segA k s pos p = (a : Int)) (hb : segA k s pos (p + 1) = (b : Int)) (hbb : b ≤ 1048576) (hcb : whole k = false → b ≤ crd.length) (h1 : a ≤ m) (h2 : m < b) :
    vr 22 0 [.t (lvT k s pz pos cz crd), .t (.int .i64 (n : Int)), .t (.int .i64 (m : Int))] e0 = some (.tup [.t (.int .i64 (p : Int)), .t (.int .i64 (atOf k crd (a : Int) (m : Int))), .t (.int .i64 0)], e0) := by
  have hmany := v.many
  have ha1 := v.a1
  have hs0 := v.s0
  have hs1 := v.s1
  obtain ⟨e, g1, g2, _⟩ := check19 (k := k) (s := s) (pz := pz) (cz := cz) (pos := pos) (crd := crd) (n : Int) hp' (by omega)
  have he : e = 0 := g2.2 v
  subst he
  have hlt : (m : Int) < belowN k s crd (n : Int) := by
    have := v.mono n n (p + 1) (by omega) (Nat.le_refl _)
    rw [(v.seg n).2.1, hb] at this
    omega
  rw [eq22, R22, g1, callK_some, asT_t, asI_int, endB_nil, decide_eq_true rfl, bNT, cf, decide_eq_false (by omega : ¬ (m : Int) < 0), cf, below29 n (by omega) hs0 hs1, callK_some, asT_t, asI_int, endB_nil, decide_eq_false (by omega : ¬ belowN k s crd (n : Int) ≤ (m : Int)), cf, whole14, callK_some, asT_t, asB_bool, endB_nil]
  unfold atOf
  cases hw : whole k with
  | true =>
    rw [segA_whole hw] at ha hb
    have hs : s ≠ 0 := by
      intro h; subst h; omega
    have hdiv : (m : Int) / s = (p : Int) := by
      have e1 : (m : Int) = (p : Int) * s + ((m : Int) - (p : Int) * s) := by omega
      rw [Int.natCast_add, Int.add_mul] at hb
      have hr0 : 0 ≤ (m : Int) - (p : Int) * s := by omega
      have hr1 : (m : Int) - (p : Int) * s < s := by omega
      rw [e1, Int.add_comm, Int.add_mul_ediv_right _ _ hs, Int.ediv_eq_zero_of_lt hr0 hr1]
      omega
    have hmod : (m : Int) % s = (m : Int) - (a : Int) := by
      have := Int.emod_add_mul_ediv (m : Int) s
      rw [hdiv, Int.mul_comm] at this
      omega
    have e1 : Int.tdiv (m : Int) s = (p : Int) := by rw [Int.tdiv_eq_ediv_of_nonneg (by omega), hdiv]
    have e2 : Int.tmod (m : Int) s = (m : Int) - (a : Int) := by rw [Int.tmod_eq_emod_of_nonneg (by omega), hmod]
    rw [ct, decide_eq_false hs, bNF, needC_t, needC_t, e1, e2, if_pos rfl, wrap64 (by omega) (by omega)]
  | false =>
    have hbl := hcb hw
    rw [cf]
    simp only [Bool.false_eq_true, if_false, Int.toNat_natCast]
    by_cases h3 : k = 3
    · subst h3
      have e1 : (p : Int) = (a : Int) := ha
      have e2 : ((p + 1 : Nat) : Int) = (b : Int) := hb
      rw [decide_eq_true rfl, ct, needNat, getI (by omega)]
      have : m = p := by omega
      rw [this]
    · have hk : k = 1 ∨ k = 2 := by
        rcases v.form with ⟨h, _⟩ | ⟨h, _⟩ | ⟨h, _⟩
        · exfalso; unfold whole at hw; rcases h with rfl | ⟨rfl, _⟩ <;> simp at hw
        · exact absurd h h3
        · exact h
      rcases v.form with ⟨h, _⟩ | ⟨h, _⟩ | ⟨_, f1, f2, f3, f4⟩
      · omega
      · omega
      · have e1 : nth pos p = (a : Int) := by rw [← ha]; unfold segA; rw [if_pos hk]
        have e2 : nth pos (p + 1) = (b : Int) := by rw [← hb]; unfold segA; rw [if_pos hk]
        obtain ⟨r, bb, q1, q2, q3, q4⟩ := searchF38 pz pos (m : Int) (by omega) (fun x y hx hy => sorted_le f4 y x hx hy)
        have hr : r = p + 1 := by
          rcases Nat.lt_trichotomy r (p + 1) with h | h | h
          · have h5 := q4 p (by omega) (by omega); omega
          · exact h
          · have h5 := q3 (p + 1) (by omega); omega
        rw [decide_eq_false h3, cf, q1, callK_some]
        simp only [callK_some, asT_t, asI_int, asB_bool, asS_str, asL_list, asA_agg, consT_cons, endT_nil, asG_agg, asTup_tup, consV_cons, endV_nil, endB_nil, consB_cons, asArr_arr, asAv_av, asMp_map, asVar_var, isBuf_buf, isPtr_ptr, needC_t, ct, cf, bNT, bNF, bTA, bAT, bFA, bAF, bTO, bOT, bFO, bOF, dT, dF]
        rw [needNat, getI (by omega), hr, wrap64 (by omega) (by omega)]
        congr 6
        omega
theorem parent22_none (n : Nat) (v : Valid k s pos crd (n : Int)) (hp' : pos.length ≤ 9223372036854775807) : vr 22 0 [.t (lvT k s pz pos cz crd), .t (.int .i64 (n : Int)), .t (.int .i64 (belowN k s crd (n : Int)))] e0 = some (.tup [.t (.int .i64 0), .t (.int .i64 0), .t (.int .i64 5)], e0) := by
  have hmany := v.many
  have ha1 := v.a1
  have hb0 := v.below0
  obtain ⟨e, g1, g2, _⟩ := check19 (k := k) (s := s) (pz := pz) (cz := cz) (pos := pos) (crd := crd) (n : Int) hp' (by omega)
  have he : e = 0 := g2.2 v
  subst he
  rw [eq22, R22, g1, callK_some, asT_t, asI_int, endB_nil, decide_eq_true rfl, bNT, cf, decide_eq_false (by omega : ¬ belowN k s crd (n : Int) < 0), cf, below29 n (by omega) v.s0 v.s1, callK_some, asT_t, asI_int, endB_nil, decide_eq_true (Int.le_refl _), ct]
end
end Go.Proofs.Ytejfkiohnoiagaa.VM
end

section
namespace Go.Proofs.Ytejfkiohnoiagaa.VM
set_option linter.unusedSectionVars false
open Go AM
/-- Lists of numbers, whatever their being nil. -/
def IsG (r : List T) (gs : List (List Int)) : Prop := All2 (fun t g => ∃ z, t = .list 1 z (ints g)) r gs
def sums : Nat → List (List Int) → List Int
  | _, [] => []
  | c, g :: gs => ((c + g.length : Nat) : Int) :: sums (c + g.length) gs
theorem sums_len : ∀ (gs : List (List Int)) (c : Nat), (sums c gs).length = gs.length
  | [], c => rfl
  | g :: gs, c => by unfold sums; simp [sums_len gs]
def total : List (List Int) → Nat
  | [] => 0
  | g :: gs => g.length + total gs
theorem total_flatten : ∀ gs : List (List Int), gs.flatten.length = total gs
  | [] => rfl
  | g :: gs => by rw [List.flatten_cons, List.length_append, total_flatten gs]; rfl
def mkPos (k : Int) (gs : List (List Int)) : List Int := if k = 1 ∨ k = 2 then 0 :: sums 0 gs else []
def mkCrd (k : Int) (gs : List (List Int)) : List Int := if whole k = true then [] else gs.flatten
def MakeOK (k s : Int) (gs : List (List Int)) : Prop := (k = 3 → ∀ g ∈ gs, g.length = 1) ∧ Valid k s (mkPos k gs) (mkCrd k gs) (gs.length : Int)
abbrev lv0 : T := .agg [.int .i64 0, .int .i64 0, .list 1 false [], .list 1 false []]
/-- What comes behind the loop. -/
theorem make_fin (k s : Int) (pz cz : Bool) (pos crd : List Int) (n : Int) (hp : pos.length ≤ 9223372036854775807) (hc : crd.length ≤ 9223372036854775806) :
    ∃ q : Option Res, (callK (vr 19 0 [(.t (lvT k s pz pos cz crd)), (.t (.int .i64 n))] ⟨[], []⟩) fun v_4 b_5 =>
      asT v_4 fun x_6 => asI .i64 x_6 fun x_7 => endB b_5 <|
      (bif (!decide (x_7 = 0)) then some ((.tup [(.t lv0), (.t (.int .i64 x_7))]), (⟨[], []⟩ : St)) else some ((.tup [(.t (lvT k s pz pos cz crd)), (.t (.int .i64 0))]), ⟨[], []⟩))) = q ∧
      ((∃ e : Int, e ≠ 0 ∧ q = some (.tup [.t lv0, .t (.int .i64 e)], e0) ∧ ¬ Valid k s pos crd n) ∨ (q = some (.tup [.t (lvT k s pz pos cz crd), .t (.int .i64 0)], e0) ∧ Valid k s pos crd n)) := by
  obtain ⟨e, h1, h2, _⟩ := check19 (k := k) (s := s) (pz := pz) (cz := cz) (pos := pos) (crd := crd) n hp hc
  rw [h1, callK_some, asT_t, asI_int, endB_nil]
  by_cases he : e = 0
  · rw [decide_eq_true he, bNT, cf]
    exact ⟨_, rfl, .inr ⟨rfl, h2.1 he⟩⟩
  · rw [decide_eq_false he, bNF, ct]
    exact ⟨_, rfl, .inl ⟨e, he, rfl, fun h => he (h2.2 h)⟩⟩
theorem L10_spec (k s : Int) (gz tz : Bool) (r0 r : List T) (gs : List (List Int)) (hr : IsG r gs) (m80 m81 : Int) (m8z : Bool) (m82 : List T) (m83z : Bool) (m83 : List T) : ∀ (m i : Nat) (pz : Bool) (pos : List Int) (cz : Bool) (crd : List Int), m + i = gs.length → gs.length ≤ 100000 → pos.length ≤ 100001 + i → crd.length + total (gs.drop i) ≤ 2000000 →
    (k = 3 ∧ (∃ g ∈ gs.drop i, g.length ≠ 1) ∧ L10_10 k gz r0 tz r (r.length : Int) (i : Int) m80 m81 m8z m82 m83z m83 k s pz (ints pos) cz (ints crd) = some (.tup [.t lv0, .t (.int .i64 1)], e0)) ∨
    ((k = 3 → ∀ g ∈ gs.drop i, g.length = 1) ∧ ∃ pz' cz', L10_10 k gz r0 tz r (r.length : Int) (i : Int) m80 m81 m8z m82 m83z m83 k s pz (ints pos) cz (ints crd) =
      (callK (vr 19 0 [(.t (lvT k s pz' (pos ++ (if pz = true then sums crd.length (gs.drop i) else [])) cz' (crd ++ (gs.drop i).flatten))), (.t (.int .i64 (r0.length : Int)))] ⟨[], []⟩) fun v_4 b_5 =>
      asT v_4 fun x_6 => asI .i64 x_6 fun x_7 => endB b_5 <|
      (bif (!decide (x_7 = 0)) then some ((.tup [(.t lv0), (.t (.int .i64 x_7))]), (⟨[], []⟩ : St)) else some ((.tup [(.t (lvT k s pz' (pos ++ (if pz = true then sums crd.length (gs.drop i) else [])) cz' (crd ++ (gs.drop i).flatten))), (.t (.int .i64 0))]), ⟨[], []⟩))))
  | 0, i, pz, pos, cz, crd, h, hg, hp, hc => by
    have hl := hr.length
    have d : decide ((i : Int) < (r.length : Int)) = false := decide_eq_false (by omega)
    have hd : gs.drop i = [] := List.drop_of_length_le (by omega)
    right
    rw [hd]
    refine ⟨fun _ g hg => by simp at hg, pz, cz, ?_⟩
    rw [L10_10_eq, RL10_10, d, cf]
    have e1 : pos ++ (if pz = true then sums crd.length [] else []) = pos := by cases pz <;> simp [sums]
    have e2 : crd ++ ([] : List (List Int)).flatten = crd := by simp
    rw [e1, e2]
  | m + 1, i, pz, pos, cz, crd, h, hg, hp, hc => by
    have hl := hr.length
    have d : decide ((i : Int) < (r.length : Int)) = true := decide_eq_true (by omega)
    obtain ⟨g, hgi, z, hz⟩ := hr.get (List.getElem?_eq_getElem (by omega : i < r.length))
    have hri : r[i]? = some (.list 1 z (ints g)) := by rw [List.getElem?_eq_getElem (by omega), hz]
    have hd : gs.drop i = g :: gs.drop (i + 1) := by
      obtain ⟨h1, h2⟩ := List.getElem?_eq_some_iff.1 hgi
      rw [List.drop_eq_getElem_cons h1, h2]
    rw [hd] at hc ⊢
    unfold total at hc
    have hcat : ints crd ++ ints g = ints (crd ++ g) := by simp
    have n1 : (decide (((ints crd).length + (ints g).length) * (8 + 1) ≤ 70368744177664) && decide (8 ≤ 1048576)) = true := by rw [decide_eq_true (by rw [ints_len, ints_len]; omega)]; rfl
    have n2 : (decide (((ints pos).length + 1) * (8 + 1) ≤ 70368744177664) && decide (8 ≤ 1048576)) = true := by rw [decide_eq_true (by rw [ints_len]; omega)]; rfl
    -- one group more
    have go : ∀ X : Option Res, (needC (decide (((ints crd).length + (ints g).length) * (8 + 1) ≤ 70368744177664) && decide (8 ≤ 1048576)) fun _ =>
        (bif (!(!pz)) then
          needC (decide (((ints pos).length + 1) * (8 + 1) ≤ 70368744177664) && decide (8 ≤ 1048576)) fun _ =>
          L10_10 k gz r0 tz r (r.length : Int) (IntKind.i64.wrap ((i : Int) + 1)) m80 m81 m8z m82 m83z m83 k s (pz || true) (ints pos ++ ([(.int .i64 (((ints crd ++ ints g)).length : Int))] : List T)) (cz || (!(ints g).isEmpty)) (ints crd ++ ints g)
        else
          L10_10 k gz r0 tz r (r.length : Int) (IntKind.i64.wrap ((i : Int) + 1)) m80 m81 m8z m82 m83z m83 k s pz (ints pos) (cz || (!(ints g).isEmpty)) (ints crd ++ ints g))) = X →
        (k = 3 ∧ (∃ g' ∈ gs.drop (i + 1), g'.length ≠ 1) ∧ X = some (.tup [.t lv0, .t (.int .i64 1)], e0)) ∨
        ((k = 3 → ∀ g' ∈ gs.drop (i + 1), g'.length = 1) ∧ ∃ pz' cz', X =
          (callK (vr 19 0 [(.t (lvT k s pz' (pos ++ (if pz = true then sums crd.length (g :: gs.drop (i + 1)) else [])) cz' (crd ++ (g :: gs.drop (i + 1)).flatten))), (.t (.int .i64 (r0.length : Int)))] ⟨[], []⟩) fun v_4 b_5 =>
          asT v_4 fun x_6 => asI .i64 x_6 fun x_7 => endB b_5 <|
          (bif (!decide (x_7 = 0)) then some ((.tup [(.t lv0), (.t (.int .i64 x_7))]), (⟨[], []⟩ : St)) else some ((.tup [(.t (lvT k s pz' (pos ++ (if pz = true then sums crd.length (g :: gs.drop (i + 1)) else [])) cz' (crd ++ (g :: gs.drop (i + 1)).flatten))), (.t (.int .i64 0))]), ⟨[], []⟩)))) := by
      intro X hX
      rw [needC_true n1, natWrap (by omega), hcat] at hX
      have e2 : crd ++ (g :: gs.drop (i + 1)).flatten = crd ++ g ++ (gs.drop (i + 1)).flatten := by rw [List.flatten_cons, List.append_assoc]
      cases pz with
      | true =>
        have e3 : ints pos ++ ([(.int .i64 ((ints (crd ++ g)).length : Int))] : List T) = ints (pos ++ [((crd.length + g.length : Nat) : Int)]) := by
          rw [ints_len, List.length_append]; simp
        have e1 : pos ++ (if true = true then sums crd.length (g :: gs.drop (i + 1)) else []) = pos ++ [((crd.length + g.length : Nat) : Int)] ++ (if true = true then sums (crd ++ g).length (gs.drop (i + 1)) else []) := by
          simp only [if_true, sums, List.length_append, List.append_assoc, List.singleton_append]
        rw [bNT, bNF, ct, needC_true n2, e3, bTO] at hX
        rw [e1, e2, ← hX]
        exact L10_spec k s gz tz r0 r gs hr m80 m81 m8z m82 m83z m83 m (i + 1) true _ _ (crd ++ g) (by omega) hg (by rw [List.length_append]; simp; omega) (by rw [List.length_append]; omega)
      | false =>
        rw [bNF, bNT, cf] at hX
        rw [e2, ← hX]
        exact L10_spec k s gz tz r0 r gs hr m80 m81 m8z m82 m83z m83 m (i + 1) false pos _ (crd ++ g) (by omega) hg (by omega) (by rw [List.length_append]; omega)
    rw [L10_10_eq, RL10_10, d, ct, needNat, Int.toNat_natCast, getT_at hri, asL_list]
    by_cases h3 : k = 3
    · rw [decide_eq_true h3, ct, ints_len g]
      by_cases h1 : (g.length : Int) = 1
      · rw [decide_eq_true h1, bNT, cf]
        rcases go _ rfl with ⟨a1, ⟨g', a2, a3⟩, a4⟩ | ⟨a1, pz', cz', a2⟩
        · exact .inl ⟨a1, ⟨g', List.mem_cons_of_mem _ a2, a3⟩, by rw [← ints_len g]; exact a4⟩
        · refine .inr ⟨fun hk g' hg' => ?_, pz', cz', by rw [← ints_len g]; exact a2⟩
          rcases List.mem_cons.1 hg' with rfl | hg'
          · omega
          · exact a1 hk g' hg'
      · rw [decide_eq_false h1, bNF, ct]
        exact .inl ⟨h3, ⟨g, by simp, by omega⟩, rfl⟩
    · rw [decide_eq_false h3, cf]
      rcases go _ rfl with ⟨a1, _⟩ | ⟨a1, pz', cz', a2⟩
      · exact absurd a1 h3
      · exact .inr ⟨fun hk => absurd hk h3, pz', cz', a2⟩
theorem flatten_nil : ∀ n : Nat, (List.replicate n ([] : List Int)).flatten = []
  | 0 => rfl
  | n + 1 => by rw [List.replicate_succ, List.flatten_cons, flatten_nil n]; rfl
theorem total_nil : ∀ n : Nat, total (List.replicate n []) = 0
  | 0 => rfl
  | n + 1 => by rw [List.replicate_succ]; unfold total; rw [total_nil n]; rfl
theorem isG_nil (n : Nat) : IsG (List.replicate n (.list 1 false [])) (List.replicate n []) := All2.replicate ⟨false, rfl⟩ n
/-- level.Make. -/
theorem make10 (k s : Int) (gz : Bool) (r : List T) (gs : List (List Int)) (hr : IsG r gs) (hn : gs.length ≤ 100000) (ht : total gs ≤ 2000000) :
    (∃ e : Int, e ≠ 0 ∧ vr 10 0 [.t (.int .i64 k), .t (.int .i64 s), .t (.list 1 gz r)] e0 = some (.tup [.t lv0, .t (.int .i64 e)], e0) ∧ ¬ MakeOK k s gs) ∨
    (∃ pz cz, vr 10 0 [.t (.int .i64 k), .t (.int .i64 s), .t (.list 1 gz r)] e0 = some (.tup [.t (lvT k s pz (mkPos k gs) cz (mkCrd k gs)), .t (.int .i64 0)], e0) ∧ MakeOK k s gs) := by
  have hl := hr.length
  have fin : ∀ (pz : Bool) (pos : List Int) (gz2 : Bool) (r2 : List T) (gs2 : List (List Int)), IsG r2 gs2 → gs2.length = gs.length → total gs2 ≤ 2000000 → pos.length ≤ 1 → (k = 3 → gs2 = gs) → pos ++ (if pz = true then sums 0 gs2 else []) = mkPos k gs → gs2.flatten = mkCrd k gs →
      ∀ X : Option Res, J10_9 k gz2 r2 0 0 false [] false [] k s pz (ints pos) false (ints []) = X →
      (∃ e : Int, e ≠ 0 ∧ X = some (.tup [.t lv0, .t (.int .i64 e)], e0) ∧ ¬ MakeOK k s gs) ∨ (∃ pz cz, X = some (.tup [.t (lvT k s pz (mkPos k gs) cz (mkCrd k gs)), .t (.int .i64 0)], e0) ∧ MakeOK k s gs) := by
    intro pz pos gz2 r2 gs2 hr2 hl2 ht2 hpos h3 hp hc X hX
    have hlen := hr2.length
    rw [J10_9_eq, RJ10_9] at hX
    have e : (0 : Int) = ((0 : Nat) : Int) := rfl
    have hlp : (mkPos k gs).length ≤ 200000 := by
      rw [← hp, List.length_append]
      cases pz with
      | true => simp only [if_true, sums_len]; omega
      | false => simp; omega
    have hlc : (mkCrd k gs).length ≤ 2000000 := by rw [← hc, total_flatten]; exact ht2
    rcases L10_spec k s gz2 gz2 r2 r2 gs2 hr2 0 0 false [] false [] gs2.length 0 pz pos false [] (by omega) (by omega) (by omega) (by simpa using ht2) with ⟨a1, ⟨g, a2, a3⟩, a4⟩ | ⟨a1, pz', cz', a2⟩
    · rw [← e] at a4
      left
      refine ⟨1, by omega, by rw [← hX]; exact a4, fun h => ?_⟩
      have := h.1 a1 g (by rw [← h3 a1]; simpa using a2)
      exact a3 this
    · rw [← e, List.drop_zero, List.length_nil, hp, List.nil_append, hc] at a2
      obtain ⟨q, b1, b2⟩ := make_fin k s pz' cz' (mkPos k gs) (mkCrd k gs) (r2.length : Int) (by omega) (by omega)
      rw [b1] at a2
      have hXq : X = q := by rw [← hX]; exact a2
      have hlr : (r2.length : Int) = (gs.length : Int) := by omega
      rw [hlr] at b2
      rw [hXq]
      rcases b2 with ⟨e1, c1, c2, c3⟩ | ⟨c1, c2⟩
      · exact .inl ⟨e1, c1, c2, fun h => c3 h.2⟩
      · refine .inr ⟨pz', cz', c1, fun hk g hg => ?_, c2⟩
        exact a1 hk g (by rw [h3 hk]; simpa using hg)
  rw [eq10, R10]
  have wz : whole k = true → mkCrd k gs = [] := fun h => by unfold mkCrd; rw [if_pos h]
  have pz0 : ¬ (k = 1 ∨ k = 2) → mkPos k gs = [] := fun h => by unfold mkPos; rw [if_neg h]
  by_cases h1 : k = 1
  · rw [decide_eq_true h1, ct]
    refine fin true [0] gz r gs hr rfl ht (by simp) (fun _ => rfl) ?_ ?_ _ rfl
    · show [0] ++ sums 0 gs = mkPos k gs
      unfold mkPos; rw [if_pos (Or.inl h1 : k = 1 ∨ k = 2)]; rfl
    · unfold mkCrd; subst h1; rfl
  rw [decide_eq_false h1, cf]
  by_cases h2 : k = 2
  · rw [decide_eq_true h2, ct]
    refine fin true [0] gz r gs hr rfl ht (by simp) (fun _ => rfl) ?_ ?_ _ rfl
    · show [0] ++ sums 0 gs = mkPos k gs
      unfold mkPos; rw [if_pos (Or.inr h2 : k = 1 ∨ k = 2)]; rfl
    · unfold mkCrd; subst h2; rfl
  rw [decide_eq_false h2, cf]
  have n1 : (decide (0 ≤ (r.length : Int)) && decide ((r.length : Int) ≤ (r.length : Int)) && decide ((r.length : Int) * (24 + 1) ≤ 70368744177664)) = true := by
    rw [decide_eq_true (by omega : 0 ≤ (r.length : Int)), decide_eq_true (Int.le_refl _), decide_eq_true (by omega : (r.length : Int) * (24 + 1) ≤ 70368744177664)]; rfl
  have whl : whole k = true → (J10_9 k true (List.replicate ((r.length : Int)).toNat (.list 1 false [])) 0 0 false [] false [] k s false [] false [] : Option Res) = J10_9 k true (List.replicate gs.length (.list 1 false [])) 0 0 false [] false [] k s false (ints []) false (ints []) := fun _ => by
    rw [Int.toNat_natCast, hl]; rfl
  by_cases h0 : k = 0
  · rw [decide_eq_true h0, ct, needC_true n1, whl (by subst h0; rfl)]
    refine fin false [] true _ (List.replicate gs.length []) (isG_nil _) (by simp) (by rw [total_nil]; omega) (by simp) (fun h => by omega) ?_ ?_ _ rfl
    · rw [pz0 (by omega)]; rfl
    · rw [wz (by subst h0; rfl), flatten_nil]
  rw [decide_eq_false h0, cf]
  by_cases h4 : k = 4
  · rw [decide_eq_true h4, ct, needC_true n1, whl (by subst h4; rfl)]
    refine fin false [] true _ (List.replicate gs.length []) (isG_nil _) (by simp) (by rw [total_nil]; omega) (by simp) (fun h => by omega) ?_ ?_ _ rfl
    · rw [pz0 (by omega)]; rfl
    · rw [wz (by subst h4; rfl), flatten_nil]
  rw [decide_eq_false h4, cf]
  refine fin false [] gz r gs hr rfl ht (by simp) (fun _ => rfl) ?_ ?_ _ rfl
  · rw [pz0 (by omega)]; rfl
  · unfold mkCrd whole
    rw [decide_eq_false h0, decide_eq_false h4, bFO, if_neg (by simp)]
theorem live_valid : MakeOK 1 4 [[1, 3], [], [0]] := by
  refine ⟨fun h => by omega, ?_⟩
  have e1 : mkPos 1 [[1, 3], [], [0]] = [0, 2, 2, 3] := rfl
  have e2 : mkCrd 1 [[1, 3], [], [0]] = [1, 3, 0] := rfl
  rw [e1, e2]
  refine ⟨by decide, by decide, by decide, by decide, .inr (.inr ⟨.inl rfl, by decide, rfl, rfl, ?_⟩), by decide, by decide, ?_, fun _ => ?_⟩
  · intro j h1 h2
    have h3 : j < 4 := h2
    match j, h1, h3 with
    | 1, _, _ => decide
    | 2, _, _ => decide
    | 3, _, _ => decide
  · intro c hc
    simp only [List.mem_cons, List.not_mem_nil, or_false] at hc
    omega
  · intro p hp i h1 h2
    have h3 : p < 3 := hp
    match p, h3 with
    | 0, _ =>
      have a1 : nth [0, 2, 2, 3] 0 = 0 := rfl
      have a2 : nth [0, 2, 2, 3] (0 + 1) = 2 := rfl
      rw [a1] at h1
      rw [a2] at h2
      have : i = 1 := by omega
      subst this
      decide
    | 1, _ =>
      have a1 : nth [0, 2, 2, 3] 1 = 2 := rfl
      have a2 : nth [0, 2, 2, 3] (1 + 1) = 2 := rfl
      rw [a1] at h1
      rw [a2] at h2
      omega
    | 2, _ =>
      have a1 : nth [0, 2, 2, 3] 2 = 2 := rfl
      have a2 : nth [0, 2, 2, 3] (2 + 1) = 3 := rfl
      rw [a1] at h1
      rw [a2] at h2
      omega
theorem live9 : vr 9 0 [] e0 = some (.t (.bool true), e0) := by
  have hg : IsG [(.list 1 true [(.int .i64 1), (.int .i64 3)]), (.list 1 false []), (.list 1 true [(.int .i64 0)])] [[1, 3], [], [0]] := .cons ⟨true, rfl⟩ (.cons ⟨false, rfl⟩ (.cons ⟨true, rfl⟩ .nil))
  rw [eq9, R9]
  rcases make10 1 4 true _ _ hg (by decide) (by decide) with ⟨e, _, _, h⟩ | ⟨pz, cz, h1, h2⟩
  · exact absurd live_valid h
  · have e1 : mkPos 1 [[1, 3], [], [0]] = [0, 2, 2, 3] := rfl
    have e2 : mkCrd 1 [[1, 3], [], [0]] = [1, 3, 0] := rfl
    have hv := h2.2
    rw [e1, e2] at h1 hv
    have hb := below13 (pz := pz) (cz := cz) 3 hv (by decide)
    have hbn : belowN 1 4 [1, 3, 0] ((3 : Nat) : Int) = 3 := rfl
    rw [hbn] at hb
    have q1 := equal16 pz true [0, 2, 2, 3] [0, 2, 2, 3] (by decide)
    have q2 := equal16 cz true [1, 3, 0] [1, 3, 0] (by decide)
    rw [decide_eq_true rfl] at q1 q2
    rw [h1, callK_some]
    simp only [callK_some, asT_t, asI_int, asB_bool, asS_str, asL_list, asA_agg, consT_cons, endT_nil, asG_agg, asTup_tup, consV_cons, endV_nil, endB_nil, consB_cons, asArr_arr, asAv_av, asMp_map, asVar_var, isBuf_buf, isPtr_ptr, needC_t, ct, cf, bNT, bNF, bTA, bAT, bFA, bAF, bTO, bOT, bFO, bOF, dT, dF]
    refine Eq.trans (congrArg (fun q => callK q _) hb) ?_
    rw [callK_some]
    simp only [callK_some, asT_t, asI_int, asB_bool, asS_str, asL_list, asA_agg, consT_cons, endT_nil, asG_agg, asTup_tup, consV_cons, endV_nil, endB_nil, consB_cons, asArr_arr, asAv_av, asMp_map, asVar_var, isBuf_buf, isPtr_ptr, needC_t, ct, cf, bNT, bNF, bTA, bAT, bFA, bAF, bTO, bOT, bFO, bOF, dT, dF]
    refine Eq.trans (congrArg (fun q => callK q _) q1) ?_
    rw [callK_some]
    simp only [callK_some, asT_t, asI_int, asB_bool, asS_str, asL_list, asA_agg, consT_cons, endT_nil, asG_agg, asTup_tup, consV_cons, endV_nil, endB_nil, consB_cons, asArr_arr, asAv_av, asMp_map, asVar_var, isBuf_buf, isPtr_ptr, needC_t, ct, cf, bNT, bNF, bTA, bAT, bFA, bAF, bTO, bOT, bFO, bOF, dT, dF]
    refine Eq.trans (congrArg (fun q => callK q _) q2) ?_
    rw [callK_some]
    simp only [callK_some, asT_t, asI_int, asB_bool, asS_str, asL_list, asA_agg, consT_cons, endT_nil, asG_agg, asTup_tup, consV_cons, endV_nil, endB_nil, consB_cons, asArr_arr, asAv_av, asMp_map, asVar_var, isBuf_buf, isPtr_ptr, needC_t, ct, cf, bNT, bNF, bTA, bAT, bFA, bAF, bTO, bOT, bFO, bOF, dT, dF]
end Go.Proofs.Ytejfkiohnoiagaa.VM
end

section
namespace Go.Proofs.Ytejfkiohnoiagaa.VM
set_option linter.unusedSectionVars false
open Go AM
/-- A level, as it is handed over. -/
abbrev lvTy : List Ty1 := [.int .i64, .int .i64, .list [.int .i64] false, .list [.int .i64] false]
theorem ints_of : ∀ l : List T, (∀ y ∈ l, ∃ ts, y = packT false ts ∧ fits [.int .i64] ts) → ∃ g : List Int, l = ints g
  | [], _ => ⟨[], rfl⟩
  | y :: l, h => by
    obtain ⟨g, rfl⟩ := ints_of l fun y hy => h y (List.mem_cons_of_mem _ hy)
    obtain ⟨ts, rfl, h6⟩ := h y (by simp)
    unfold fits at h6
    obtain ⟨a, r1, rfl, ha, h6⟩ := h6
    unfold fits at h6
    subst h6
    unfold fit1 at ha
    obtain ⟨n, rfl, _⟩ := ha
    exact ⟨n :: g, rfl⟩
theorem level_of {x : T} (h : FitT lvTy true x) : ∃ k s pz pos cz crd, x = lvT k s pz pos cz crd := by
  obtain ⟨ts, rfl, h⟩ := h
  unfold fits at h
  obtain ⟨a, r1, rfl, ha, h⟩ := h
  unfold fits at h
  obtain ⟨b, r2, rfl, hb, h⟩ := h
  unfold fits at h
  obtain ⟨c, r3, rfl, hc, h⟩ := h
  unfold fits at h
  obtain ⟨d, r4, rfl, hd, h⟩ := h
  unfold fits at h
  subst h
  unfold fit1 at ha hb hc hd
  obtain ⟨k, rfl, _⟩ := ha
  obtain ⟨s, rfl, _⟩ := hb
  obtain ⟨pz, l1, rfl, _, _, h1⟩ := hc
  obtain ⟨cz, l2, rfl, _, _, h2⟩ := hd
  obtain ⟨pos, rfl⟩ := ints_of l1 h1
  obtain ⟨crd, rfl⟩ := ints_of l2 h2
  exact ⟨k, s, pz, pos, cz, crd, rfl⟩
/-- A set of numbers, as a map. -/
abbrev mapOf (ks : List Int) : List (T × T) := ks.map fun x => (.int .i64 x, .bool true)
theorem keyT_int (x k : Int) : keyT (.int .i64 x) (.int .i64 k) = some (decide (x = k)) := rfl
theorem look_map : ∀ (ks : List Int) (x : Int), lookT (mapOf ks) (.int .i64 x) = some (if x ∈ ks then some (T.bool true) else none)
  | [], x => rfl
  | k :: ks, x => by
    show (match keyT (.int .i64 x) (.int .i64 k) with | some true => some (some (T.bool true)) | some false => lookT (mapOf ks) (.int .i64 x) | none => none) = _
    rw [keyT_int]
    by_cases h : x = k
    · rw [decide_eq_true h, if_pos (by simp [h])]
    · rw [decide_eq_false h]
      show lookT (mapOf ks) (.int .i64 x) = _
      rw [look_map ks x]
      simp [h]
theorem put_map : ∀ (ks : List Int) (x : Int), putT (mapOf ks) (.int .i64 x) (.bool true) = mapOf (if x ∈ ks then ks else ks ++ [x])
  | [], x => rfl
  | k :: ks, x => by
    show (match keyT (.int .i64 x) (.int .i64 k) with | some true => (T.int .i64 x, T.bool true) :: mapOf ks | _ => (T.int .i64 k, T.bool true) :: putT (mapOf ks) (.int .i64 x) (.bool true)) = _
    rw [keyT_int]
    by_cases h : x = k
    · rw [decide_eq_true h, if_pos (by simp [h])]
      subst h; rfl
    · rw [decide_eq_false h]
      show (T.int .i64 k, T.bool true) :: putT (mapOf ks) (.int .i64 x) (.bool true) = _
      rw [put_map ks x]
      by_cases hx : x ∈ ks
      · rw [if_pos hx, if_pos (by simp [hx])]; rfl
      · rw [if_neg hx, if_neg (by simp [h, hx])]; rfl
theorem putC_map {R : Type} (ks : List Int) (x : Int) (K : List (T × T) → Option R) : putC (mapOf ks) (.int .i64 x) (.bool true) K = K (mapOf (if x ∈ ks then ks else ks ++ [x])) := by
  unfold putC
  rw [look_map, put_map]
theorem lkT_map {R : Type} (ks : List Int) (x : Int) (K : T → Bool → Option R) : lkT (mapOf ks) (.int .i64 x) (.bool false) K = K (.bool (decide (x ∈ ks))) (decide (x ∈ ks)) := by
  unfold lkT
  rw [look_map]
  by_cases h : x ∈ ks
  · rw [if_pos h, decide_eq_true h]; rfl
  · rw [if_neg h, decide_eq_false h]; rfl
/-- How many lie below. -/
def cnt : List Int → Int → Nat
  | [], _ => 0
  | x :: l, a => (if x < a then 1 else 0) + cnt l a
theorem cnt_all : ∀ (l : List Int) (a : Int), (∀ x ∈ l, x < a) → cnt l a = l.length
  | [], _, _ => rfl
  | x :: l, a, h => by
    unfold cnt
    rw [if_pos (h x (by simp)), cnt_all l a fun y hy => h y (List.mem_cons_of_mem _ hy), List.length_cons]; omega
theorem cnt_none : ∀ (l : List Int) (a : Int), (∀ x ∈ l, a ≤ x) → cnt l a = 0
  | [], _, _ => rfl
  | x :: l, a, h => by
    have := h x (by simp)
    unfold cnt
    rw [if_neg (by omega), cnt_none l a fun y hy => h y (List.mem_cons_of_mem _ hy)]
theorem cnt_step : ∀ (l : List Int) (a : Int), l.Nodup → cnt l (a + 1) = cnt l a + if a ∈ l then 1 else 0
  | [], _, _ => rfl
  | x :: l, a, h => by
    obtain ⟨h1, h2⟩ := List.nodup_cons.1 h
    have := cnt_step l a h2
    unfold cnt
    rw [this]
    have e1 : ∀ c : Prop, ∀ _ : Decidable c, (if c then (1 : Nat) else 0) = 1 ∧ c ∨ (if c then (1 : Nat) else 0) = 0 ∧ ¬ c := fun c _ => by by_cases h : c <;> simp [h]
    by_cases hx : a = x
    · subst hx
      rw [if_neg h1, if_pos (by omega : a < a + 1), if_neg (by omega : ¬ a < a), if_pos (by simp : a ∈ a :: l)]
      omega
    · have hiff : (a ∈ x :: l) ↔ a ∈ l := by simp [hx]
      rcases e1 (a ∈ l) inferInstance with ⟨q1, q2⟩ | ⟨q1, q2⟩
      · rw [q1, if_pos (hiff.2 q2)]
        by_cases hl : x < a
        · rw [if_pos hl, if_pos (by omega : x < a + 1)]; omega
        · rw [if_neg hl, if_neg (by omega : ¬ x < a + 1)]; omega
      · rw [q1, if_neg (fun h => q2 (hiff.1 h))]
        by_cases hl : x < a
        · rw [if_pos hl, if_pos (by omega : x < a + 1)]; omega
        · rw [if_neg hl, if_neg (by omega : ¬ x < a + 1)]; omega
section
variable {k s : Int} {pz cz : Bool} {pos crd : List Int}
/-- Places lie within the size. -/
theorem atOf_range (n : Nat) (v : Valid k s pos crd (n : Int)) (p : Nat) (hp : p < n) (a b : Nat) (ha : segA k s pos p = (a : Int)) (hb : segA k s pos (p + 1) = (b : Int)) (hcb : whole k = false → b ≤ crd.length) (m : Nat) (h1 : a ≤ m) (h2 : m < b) : 0 ≤ atOf k crd (a : Int) (m : Int) ∧ atOf k crd (a : Int) (m : Int) < s := by
  unfold atOf
  cases hw : whole k with
  | true =>
    rw [segA_whole hw] at ha hb
    rw [Int.natCast_add, Int.add_mul] at hb
    rw [if_pos rfl]
    omega
  | false =>
    have := hcb hw
    rw [if_neg (by simp), Int.toNat_natCast]
    exact v.rng _ (nth_mem (by omega))
/-- The children, as pairs. -/
def kidL (k s : Int) (pos crd : List Int) (p : Nat) : List (Int × Int) := (List.range (segA k s pos (p + 1) - segA k s pos p).toNat).map fun (j : Nat) => (atOf k crd (segA k s pos p) (segA k s pos p + j), segA k s pos p + j)
theorem kids_kidL (p : Nat) : kids k s pos crd p = (kidL k s pos crd p).map fun q => kidT q.1 q.2 := by
  unfold kids kidL
  rw [List.map_map]
  rfl
theorem kidL_at (p : Nat) (a b : Nat) (ha : segA k s pos p = (a : Int)) (hb : segA k s pos (p + 1) = (b : Int)) {i : Nat} (hi : i < b - a) : (kidL k s pos crd p)[i]? = some (atOf k crd (a : Int) ((a + i : Nat) : Int), ((a + i : Nat) : Int)) := by
  unfold kidL
  rw [ha, hb, List.getElem?_map, List.getElem?_range (by omega)]
  rfl
theorem kidL_len (p : Nat) (a b : Nat) (ha : segA k s pos p = (a : Int)) (hb : segA k s pos (p + 1) = (b : Int)) : (kidL k s pos crd p).length = b - a := by
  unfold kidL
  rw [ha, hb, List.length_map, List.length_range]
  omega
theorem kidL_mem (p : Nat) (a b : Nat) (ha : segA k s pos p = (a : Int)) (hb : segA k s pos (p + 1) = (b : Int)) (x : Int) : (∃ q ∈ kidL k s pos crd p, q.1 = x) ↔ ∃ m : Nat, a ≤ m ∧ m < b ∧ atOf k crd (a : Int) (m : Int) = x := by
  constructor
  · rintro ⟨q, hq, rfl⟩
    obtain ⟨i, hi, he⟩ := List.mem_iff_getElem.1 hq
    have hlen := kidL_len (crd := crd) p a b ha hb
    have := kidL_at (crd := crd) p a b ha hb (i := i) (by omega)
    rw [List.getElem?_eq_getElem hi, he] at this
    rw [Option.some.inj this]
    exact ⟨a + i, by omega, by omega, rfl⟩
  · rintro ⟨m, h1, h2, rfl⟩
    have := kidL_at (crd := crd) p a b ha hb (i := m - a) (by omega)
    have e : a + (m - a) = m := by omega
    rw [e] at this
    exact ⟨_, List.mem_of_getElem? this, rfl⟩
theorem getK {R : Type} {pl : List (Int × Int)} {i : Nat} {q : Int × Int} (h : pl[i]? = some q) (K : T → Option R) : getT (pl.map fun q => kidT q.1 q.2) i K = K (kidT q.1 q.2) := by
  rw [getT_at]
  rw [List.getElem?_map, h]; rfl
theorem L610_spec (ahead p : Int) (up z : Bool) (pl : List (Int × Int)) (hb : pl.length ≤ 9223372036854775806) : ∀ (m i : Nat) (ks : List Int), m + i = pl.length → ks.Nodup →
    ∃ ks' : List Int, L6_10 ahead p up z (pl.map fun q => kidT q.1 q.2) (pl.length : Int) (i : Int) k s pz (ints pos) cz (ints crd) (mapOf ks) = L6_16 ahead p up 0 (-1) k s pz (ints pos) cz (ints crd) (mapOf ks') ∧ ks'.Nodup ∧ ∀ x, x ∈ ks' ↔ x ∈ ks ∨ ∃ q ∈ pl.drop i, q.1 = x
  | 0, i, ks, h, hn => by
    have d : decide ((i : Int) < (pl.length : Int)) = false := decide_eq_false (by omega)
    rw [L6_10_eq, RL6_10, d, cf]
    refine ⟨ks, rfl, hn, fun x => ?_⟩
    rw [List.drop_of_length_le (by omega)]
    simp
  | m + 1, i, ks, h, hn => by
    have d : decide ((i : Int) < (pl.length : Int)) = true := decide_eq_true (by omega)
    have hq : pl[i]? = some (pl[i]'(by omega)) := List.getElem?_eq_getElem (by omega)
    generalize pl[i]'(by omega) = q at hq
    have hn2 : (if q.1 ∈ ks then ks else ks ++ [q.1]).Nodup := by
      by_cases hm : q.1 ∈ ks
      · rw [if_pos hm]; exact hn
      · rw [if_neg hm]
        refine List.nodup_append.2 ⟨hn, by simp, fun x hx y hy => ?_⟩
        rw [List.mem_singleton] at hy
        subst hy
        exact fun h => hm (h ▸ hx)
    obtain ⟨ks', h1, h2, h3⟩ := L610_spec ahead p up z pl hb m (i + 1) (if q.1 ∈ ks then ks else ks ++ [q.1]) (by omega) hn2
    rw [L6_10_eq, RL6_10, d, ct, needNat, Int.toNat_natCast, getK hq]
    simp only [callK_some, asT_t, asI_int, asB_bool, asS_str, asL_list, asA_agg, consT_cons, endT_nil, asG_agg, asTup_tup, consV_cons, endV_nil, endB_nil, consB_cons, asArr_arr, asAv_av, asMp_map, asVar_var, isBuf_buf, isPtr_ptr, needC_t, ct, cf, bNT, bNF, bTA, bAT, bFA, bAF, bTO, bOT, bFO, bOF, dT, dF]
    rw [putC_map, natWrap (by omega)]
    refine ⟨ks', h1, h2, fun x => (h3 x).trans ?_⟩
    have hd : pl.drop i = q :: pl.drop (i + 1) := by
      obtain ⟨g1, g2⟩ := List.getElem?_eq_some_iff.1 hq
      rw [List.drop_eq_getElem_cons g1, g2]
    rw [hd]
    by_cases hm : q.1 ∈ ks
    · rw [if_pos hm]
      constructor
      · rintro (h | ⟨q', h, rfl⟩)
        · exact .inl h
        · exact .inr ⟨q', List.mem_cons_of_mem _ h, rfl⟩
      · rintro (h | ⟨q', h, rfl⟩)
        · exact .inl h
        · rcases List.mem_cons.1 h with rfl | h
          · exact .inl hm
          · exact .inr ⟨q', h, rfl⟩
    · rw [if_neg hm]
      constructor
      · rintro (h | ⟨q', h, rfl⟩)
        · rcases List.mem_append.1 h with h | h
          · exact .inl h
          · rw [List.mem_singleton] at h
            exact .inr ⟨q, by simp, h.symm⟩
        · exact .inr ⟨q', List.mem_cons_of_mem _ h, rfl⟩
      · rintro (h | ⟨q', h, rfl⟩)
        · exact .inl (List.mem_append_left _ h)
        · rcases List.mem_cons.1 h with rfl | h
          · exact .inl (by simp)
          · exact .inr ⟨q', h, rfl⟩
theorem L616_spec (n : Nat) (v : Valid k s pos crd (n : Int)) (hp' : pos.length ≤ 9223372036854775807) (p : Nat) (hp : p < n) (a b : Nat) (ha : segA k s pos p = (a : Int)) (hb : segA k s pos (p + 1) = (b : Int)) (hab : a ≤ b) (hbb : b ≤ 1048576) (hcb : whole k = false → b ≤ crd.length) (ks : List Int) (hk : ks.Nodup) (hkm : ∀ x, x ∈ ks ↔ ∃ m : Nat, a ≤ m ∧ m < b ∧ atOf k crd (a : Int) (m : Int) = x) (hs : s ≤ 300) :
    ∀ (d : Nat) (at' : Int) (many : Nat), (d : Int) + at' = s + 1 → -1 ≤ at' → many = cnt ks at' → many ≤ at' + 1 →
    L6_16 (n : Int) (p : Int) true (many : Int) at' k s pz (ints pos) cz (ints crd) (mapOf ks) = some (.t (.bool true), e0)
  | 0, at', many, h, h1, hm, hb1 => by
    have d : decide (at' ≤ s) = false := decide_eq_false (by omega)
    rw [L6_16_eq, RL6_16, d, cf, ct]
    have hall : cnt ks at' = ks.length := cnt_all _ _ fun x hx => by
      obtain ⟨m, m1, m2, rfl⟩ := (hkm x).1 hx
      have := atOf_range n v p hp a b ha hb hcb m m1 m2
      omega
    have e : (many : Int) = ((mapOf ks).length : Int) := by rw [hm, hall]; simp
    rw [decide_eq_true e]
  | d + 1, at', many, h, h1, hm, hb1 => by
    have dd : decide (at' ≤ s) = true := decide_eq_true (by omega)
    have step := cnt_step ks at' hk
    rw [L6_16_eq, RL6_16, dd, ct]
    rcases find20 (pz := pz) (cz := cz) n v hp' p hp at' a b ha hb hab hbb hcb with ⟨m, q1, q2, q3, q4, _⟩ | ⟨q1, q2⟩
    · have hin : at' ∈ ks := (hkm at').2 ⟨m, q2, q3, q4⟩
      rw [if_pos hin] at step
      rw [q1, callK_some]
      simp only [callK_some, asT_t, asI_int, asB_bool, asS_str, asL_list, asA_agg, consT_cons, endT_nil, asG_agg, asTup_tup, consV_cons, endV_nil, endB_nil, consB_cons, asArr_arr, asAv_av, asMp_map, asVar_var, isBuf_buf, isPtr_ptr, needC_t, ct, cf, bNT, bNF, bTA, bAT, bFA, bAF, bTO, bOT, bFO, bOF, dT, dF]
      rw [lkT_map, decide_eq_true hin]
      simp only [callK_some, asT_t, asI_int, asB_bool, asS_str, asL_list, asA_agg, consT_cons, endT_nil, asG_agg, asTup_tup, consV_cons, endV_nil, endB_nil, consB_cons, asArr_arr, asAv_av, asMp_map, asVar_var, isBuf_buf, isPtr_ptr, needC_t, ct, cf, bNT, bNF, bTA, bAT, bFA, bAF, bTO, bOT, bFO, bOF, dT, dF]
      rw [wrap64 (by omega) (by omega), wrap64 (by omega) (by omega)]
      have := L616_spec n v hp' p hp a b ha hb hab hbb hcb ks hk hkm hs d (at' + 1) (many + 1) (by omega) (by omega) (by omega) (by omega)
      rw [Int.natCast_add] at this
      exact this
    · have hin : at' ∉ ks := fun h => by
        obtain ⟨m, m1, m2, m3⟩ := (hkm at').1 h
        exact q2 m m1 m2 m3
      rw [if_neg hin] at step
      rw [q1, callK_some]
      simp only [callK_some, asT_t, asI_int, asB_bool, asS_str, asL_list, asA_agg, consT_cons, endT_nil, asG_agg, asTup_tup, consV_cons, endV_nil, endB_nil, consB_cons, asArr_arr, asAv_av, asMp_map, asVar_var, isBuf_buf, isPtr_ptr, needC_t, ct, cf, bNT, bNF, bTA, bAT, bFA, bAF, bTO, bOT, bFO, bOF, dT, dF]
      rw [lkT_map, decide_eq_false hin]
      simp only [callK_some, asT_t, asI_int, asB_bool, asS_str, asL_list, asA_agg, consT_cons, endT_nil, asG_agg, asTup_tup, consV_cons, endV_nil, endB_nil, consB_cons, asArr_arr, asAv_av, asMp_map, asVar_var, isBuf_buf, isPtr_ptr, needC_t, ct, cf, bNT, bNF, bTA, bAT, bFA, bAF, bTO, bOT, bFO, bOF, dT, dF]
      rw [wrap64 (by omega) (by omega)]
      exact L616_spec n v hp' p hp a b ha hb hab hbb hcb ks hk hkm hs d (at' + 1) many (by omega) (by omega) (by omega) (by omega)
end
theorem modPos {n : Int} (h : 1 ≤ n) (h2 : n ≤ 1048576) (p : Int) : ∃ q : Nat, Int.tmod (IntKind.i64.wrap (Int.tmod p n + n)) n = (q : Int) ∧ (q : Int) < n := by
  have h3 := Int.tmod_lt_of_pos p (by omega : 0 < n)
  have h4 := Int.lt_tmod_of_pos p (by omega : 0 < n)
  rw [wrap64 (by omega) (by omega)]
  have h5 := Int.tmod_lt_of_pos (Int.tmod p n + n) (by omega : 0 < n)
  have h6 := Int.tmod_nonneg n (by omega : 0 ≤ Int.tmod p n + n)
  exact ⟨(Int.tmod (Int.tmod p n + n) n).toNat, by omega, by omega⟩
theorem places_spec (x0 : T) (f0 : FitT lvTy true x0) (a1 a2 : Int) : ∃ st, vr 6 0 [.t x0, .t (.int .i64 a1), .t (.int .i64 a2)] ⟨[], []⟩ = some (.t (.bool true), st) := by
  obtain ⟨k, s, pz, pos, cz, crd, rfl⟩ := level_of f0
  refine ⟨e0, ?_⟩
  rw [eq6, R6, live9, callK_some, asT_t, asB_bool, endB_nil]
  obtain ⟨b, h1, h2⟩ := few18 (k := k) (s := s) (pz := pz) (cz := cz) (pos := pos) (crd := crd) a1
  rw [h1, callK_some, asT_t, asB_bool, endB_nil]
  cases b with
  | false => rw [bNF, ct]
  | true =>
    obtain ⟨hp, hc⟩ := h2 rfl
    rw [bNT, cf]
    by_cases ha1 : a1 < 1
    · rw [decide_eq_true ha1, ct]
    rw [decide_eq_false ha1, cf]
    by_cases hs3 : 300 < s
    · rw [decide_eq_true hs3, ct]
    rw [decide_eq_false hs3, cf]
    obtain ⟨e, g1, g2, _⟩ := check19 (k := k) (s := s) (pz := pz) (cz := cz) (pos := pos) (crd := crd) a1 (by omega) (by omega)
    rw [g1, callK_some, asT_t, asI_int, endB_nil]
    by_cases he : e = 0
    · have v := g2.1 he
      rw [decide_eq_true he, bNT, cf, decide_eq_false (by omega : ¬ a1 = 0), bNF, needC_t, needC_t]
      obtain ⟨q, hq1, hq2⟩ := modPos (by omega : 1 ≤ a1) v.a1 a2
      rw [hq1]
      obtain ⟨n, rfl⟩ : ∃ n : Nat, a1 = (n : Int) := ⟨a1.toNat, by omega⟩
      have hq3 : q < n := by omega
      obtain ⟨zz, c1⟩ := children15 (pz := pz) (cz := cz) n v (by omega) q hq3
      obtain ⟨a, b, ha, hb, hab, hbb, hcb, _⟩ := v.segNat n q hq3
      have hlen := kidL_len (crd := crd) q a b ha hb
      rw [c1, kids_kidL, callK_some]
      simp only [callK_some, asT_t, asI_int, asB_bool, asS_str, asL_list, asA_agg, consT_cons, endT_nil, asG_agg, asTup_tup, consV_cons, endV_nil, endB_nil, consB_cons, asArr_arr, asAv_av, asMp_map, asVar_var, isBuf_buf, isPtr_ptr, needC_t, ct, cf, bNT, bNF, bTA, bAT, bFA, bAF, bTO, bOT, bFO, bOF, dT, dF]
      rw [List.length_map]
      obtain ⟨ks, d1, d2, d3⟩ := L610_spec (k := k) (s := s) (pz := pz) (cz := cz) (pos := pos) (crd := crd) (n : Int) (q : Int) true zz (kidL k s pos crd q) (by omega) (kidL k s pos crd q).length 0 [] (by omega) (by simp)
      refine Eq.trans d1 ?_
      have hkm : ∀ x, x ∈ ks ↔ ∃ m : Nat, a ≤ m ∧ m < b ∧ atOf k crd (a : Int) (m : Int) = x := fun x => by
        rw [d3 x, List.drop_zero, kidL_mem q a b ha hb x]
        simp
      have hs0 := v.s0
      refine L616_spec n v (by omega) q hq3 a b ha hb hab hbb hcb ks d2 hkm (by omega) (s + 2).toNat (-1) 0 (by omega) (by omega) ?_ (by omega)
      rw [cnt_none]
      intro x hx
      obtain ⟨m, m1, m2, rfl⟩ := (hkm x).1 hx
      have := atOf_range n v q hq3 a b ha hb hcb m m1 m2
      omega
    · rw [decide_eq_false he, bNF, ct]
end Go.Proofs.Ytejfkiohnoiagaa.VM
end

section
namespace Go.Proofs.Ytejfkiohnoiagaa.VM
set_option linter.unusedSectionVars false
open Go AM
section
variable {k s : Int} {pz cz : Bool} {pos crd : List Int}
/-- Of no loose level two children of one stand at one place. -/
theorem atOf_strict (n : Nat) (v : Valid k s pos crd (n : Int)) (hk : k ≠ 2) (p : Nat) (hp : p < n) (a b : Nat) (ha : segA k s pos p = (a : Int)) (hb : segA k s pos (p + 1) = (b : Int)) (x : Nat) (h1 : a ≤ x) (h3 : x + 1 < b) : atOf k crd (a : Int) (x : Int) ≠ atOf k crd (a : Int) ((x + 1 : Nat) : Int) := by
  unfold atOf
  cases hw : whole k with
  | true => simp only [if_true]; omega
  | false =>
    simp only [Bool.false_eq_true, if_false, Int.toNat_natCast]
    rcases v.form with ⟨h, _⟩ | ⟨h, _⟩ | ⟨h, _⟩
    · exfalso; unfold whole at hw; rcases h with rfl | ⟨rfl, _⟩ <;> simp at hw
    · subst h
      have e1 : segA 3 s pos p = (p : Int) := rfl
      have e2 : segA 3 s pos (p + 1) = ((p + 1 : Nat) : Int) := rfl
      omega
    · have hr := v.rise h p (by omega) (x + 1)
      have e1 : segA k s pos p = nth pos p := by unfold segA; rw [if_pos h]
      have e2 : segA k s pos (p + 1) = nth pos (p + 1) := by unfold segA; rw [if_pos h]
      rw [if_neg hk] at hr
      have := hr (by omega) (by omega)
      simp only [Nat.add_sub_cancel] at this
      omega
theorem L712_spec (n : Nat) (v : Valid k s pos crd (n : Int)) (hp' : pos.length ≤ 9223372036854775807) (p : Nat) (hp : p < n) (a b : Nat) (ha : segA k s pos p = (a : Int)) (hb : segA k s pos (p + 1) = (b : Int)) (hab : a ≤ b) (hbb : b ≤ 1048576) (hcb : whole k = false → b ≤ crd.length) (up zz : Bool) (N : Int) :
    ∀ (m i : Nat), m + i = b - a →
    L7_12 (n : Int) up ((a + i : Nat) : Int) (p : Int) zz ((kidL k s pos crd p).map fun q => kidT q.1 q.2) N (p : Int) zz ((kidL k s pos crd p).map fun q => kidT q.1 q.2) ((b - a : Nat) : Int) (i : Int) k s pz (ints pos) cz (ints crd) = L7_6 (n : Int) up (b : Int) N ((p + 1 : Nat) : Int) k s pz (ints pos) cz (ints crd)
  | 0, i, h => by
    have d : decide ((i : Int) < ((b - a : Nat) : Int)) = false := decide_eq_false (by omega)
    have hn1 := v.a1
    rw [L7_12_eq, RL7_12, d, cf, natWrap (by omega)]
    have : a + i = b := by omega
    rw [this]
  | m + 1, i, h => by
    have hn1 := v.a1
    have d : decide ((i : Int) < ((b - a : Nat) : Int)) = true := decide_eq_true (by omega)
    have hq := kidL_at (crd := crd) p a b ha hb (i := i) (by omega)
    have ih := L712_spec n v hp' p hp a b ha hb hab hbb hcb up zz N m (i + 1) (by omega)
    have hrange := atOf_range n v p hp a b ha hb hcb (a + i) (by omega) (by omega)
    -- what comes behind
    have J : ∀ x8 : Int, x8 = ((a + i : Nat) : Int) → J7_23 (n : Int) up ((a + i : Nat) : Int) (p : Int) zz ((kidL k s pos crd p).map fun q => kidT q.1 q.2) (i : Int) N (p : Int) zz ((kidL k s pos crd p).map fun q => kidT q.1 q.2) ((b - a : Nat) : Int) (i : Int) k s pz (ints pos) cz (ints crd) (atOf k crd (a : Int) ((a + i : Nat) : Int)) x8 = L7_6 (n : Int) up (b : Int) N ((p + 1 : Nat) : Int) k s pz (ints pos) cz (ints crd) := by
      intro x8 hx8
      rw [J7_23_eq, RJ7_23, natWrap (by omega), natWrap (by omega)]
      by_cases hi : i = 0
      · rw [decide_eq_false (by omega : ¬ (0 : Int) < (i : Int)), cf]
        exact ih
      · obtain ⟨j, rfl⟩ : ∃ j, i = j + 1 := ⟨i - 1, by omega⟩
        have hq2 := kidL_at (crd := crd) p a b ha hb (i := j) (by omega)
        have hw : IntKind.i64.wrap (((j + 1 : Nat) : Int) - 1) = (j : Int) := by rw [wrap64 (by omega) (by omega)]; omega
        rw [decide_eq_true (by omega : (0 : Int) < ((j + 1 : Nat) : Int)), ct, hw, needNat, Int.toNat_natCast, getK hq2]
        simp only [callK_some, asT_t, asI_int, asB_bool, asS_str, asL_list, asA_agg, consT_cons, endT_nil, asG_agg, asTup_tup, consV_cons, endV_nil, endB_nil, consB_cons, asArr_arr, asAv_av, asMp_map, asVar_var, isBuf_buf, isPtr_ptr, needC_t, ct, cf, bNT, bNF, bTA, bAT, bFA, bAF, bTO, bOT, bFO, bOF, dT, dF]
        have hle := atOf_rising n v p hp a b ha hb hcb (a + j) (a + (j + 1)) (by omega) (by omega) (by omega)
        rw [decide_eq_false (by omega), cf]
        exact ih
    rw [L7_12_eq, RL7_12, d, ct, needNat, Int.toNat_natCast, getK hq]
    simp only [callK_some, asT_t, asI_int, asB_bool, asS_str, asL_list, asA_agg, consT_cons, endT_nil, asG_agg, asTup_tup, consV_cons, endV_nil, endB_nil, consB_cons, asArr_arr, asAv_av, asMp_map, asVar_var, isBuf_buf, isPtr_ptr, needC_t, ct, cf, bNT, bNF, bTA, bAT, bFA, bAF, bTO, bOT, bFO, bOF, dT, dF]
    rw [parent22 n v hp' p hp (a + i) a b ha hb hbb hcb (by omega) (by omega), callK_some]
    simp only [callK_some, asT_t, asI_int, asB_bool, asS_str, asL_list, asA_agg, consT_cons, endT_nil, asG_agg, asTup_tup, consV_cons, endV_nil, endB_nil, consB_cons, asArr_arr, asAv_av, asMp_map, asVar_var, isBuf_buf, isPtr_ptr, needC_t, ct, cf, bNT, bNF, bTA, bAT, bFA, bAF, bTO, bOT, bFO, bOF, dT, dF]
    rcases find20 (pz := pz) (cz := cz) n v hp' p hp (atOf k crd (a : Int) ((a + i : Nat) : Int)) a b ha hb hab hbb hcb with ⟨w, q1, q2, q3, q4, q5⟩ | ⟨_, q2⟩
    · have hwi : w ≤ a + i := by
        rcases Nat.lt_or_ge (a + i) w with h' | h'
        · have := q5 (a + i) (by omega) h'; omega
        · exact h'
      rw [q1, callK_some]
      simp only [callK_some, asT_t, asI_int, asB_bool, asS_str, asL_list, asA_agg, consT_cons, endT_nil, asG_agg, asTup_tup, consV_cons, endV_nil, endB_nil, consB_cons, asArr_arr, asAv_av, asMp_map, asVar_var, isBuf_buf, isPtr_ptr, needC_t, ct, cf, bNT, bNF, bTA, bAT, bFA, bAF, bTO, bOT, bFO, bOF, dT, dF]
      rw [decide_eq_false (by omega : ¬ atOf k crd (a : Int) ((a + i : Nat) : Int) < 0), cf, decide_eq_false (by omega : ¬ s ≤ atOf k crd (a : Int) ((a + i : Nat) : Int)), cf]
      by_cases hi : i = 0
      · have e : (w : Int) = ((a + i : Nat) : Int) := by omega
        rw [decide_eq_true (by omega : (i : Int) = 0), ct, decide_eq_true e, bNT, cf]
        exact J _ rfl
      · obtain ⟨j, rfl⟩ : ∃ j, i = j + 1 := ⟨i - 1, by omega⟩
        have hq2 := kidL_at (crd := crd) p a b ha hb (i := j) (by omega)
        have hw : IntKind.i64.wrap (((j + 1 : Nat) : Int) - 1) = (j : Int) := by rw [wrap64 (by omega) (by omega)]; omega
        rw [decide_eq_false (by omega : ¬ ((j + 1 : Nat) : Int) = 0), cf, hw, needNat, Int.toNat_natCast, getK hq2]
        simp only [callK_some, asT_t, asI_int, asB_bool, asS_str, asL_list, asA_agg, consT_cons, endT_nil, asG_agg, asTup_tup, consV_cons, endV_nil, endB_nil, consB_cons, asArr_arr, asAv_av, asMp_map, asVar_var, isBuf_buf, isPtr_ptr, needC_t, ct, cf, bNT, bNF, bTA, bAT, bFA, bAF, bTO, bOT, bFO, bOF, dT, dF]
        have hle := atOf_rising n v p hp a b ha hb hcb (a + j) (a + (j + 1)) (by omega) (by omega) (by omega)
        by_cases hsame : atOf k crd (a : Int) ((a + j : Nat) : Int) = atOf k crd (a : Int) ((a + (j + 1) : Nat) : Int)
        · have hlt : w < a + (j + 1) := by
            rcases Nat.lt_or_ge w (a + (j + 1)) with h' | h'
            · exact h'
            · have := q5 (a + j) (by omega) (by omega); omega
          have hk : k = 2 := by
            by_cases hk : k = 2
            · exact hk
            · exact absurd hsame (atOf_strict n v hk p hp a b ha hb (a + j) (by omega) (by omega))
          rw [decide_eq_true hsame, bNT, cf, decide_eq_false (by omega : ¬ ((a + (j + 1) : Nat) : Int) ≤ (w : Int)), cf, decide_eq_true hk, bNT, cf]
          exact J _ rfl
        · have e : (w : Int) = ((a + (j + 1) : Nat) : Int) := by
            rcases Nat.lt_or_ge w (a + (j + 1)) with h' | h'
            · have := atOf_rising n v p hp a b ha hb hcb w (a + j) (by omega) (by omega) (by omega)
              omega
            · omega
          rw [decide_eq_false hsame, bNF, ct, decide_eq_true e, bNT, cf]
          exact J _ rfl
    · exact absurd rfl (q2 (a + i) (by omega) (by omega))
theorem L76_spec (n : Nat) (v : Valid k s pos crd (n : Int)) (hp' : pos.length ≤ 9223372036854775807) : ∀ (m p : Nat), m + p = n →
    L7_6 (n : Int) true (segA k s pos p) (n : Int) (p : Int) k s pz (ints pos) cz (ints crd) = some (.t (.bool true), e0)
  | 0, p, h => by
    have d : decide ((p : Int) < (n : Int)) = false := decide_eq_false (by omega)
    have hpn : p = n := by omega
    subst hpn
    rw [L7_6_eq, RL7_6, d, cf, below13 p v hp', callK_some]
    simp only [callK_some, asT_t, asI_int, asB_bool, asS_str, asL_list, asA_agg, consT_cons, endT_nil, asG_agg, asTup_tup, consV_cons, endV_nil, endB_nil, consB_cons, asArr_arr, asAv_av, asMp_map, asVar_var, isBuf_buf, isPtr_ptr, needC_t, ct, cf, bNT, bNF, bTA, bAT, bFA, bAF, bTO, bOT, bFO, bOF, dT, dF]
    rw [(v.seg p).2.1, parent22_none p v hp', callK_some]
    simp only [callK_some, asT_t, asI_int, asB_bool, asS_str, asL_list, asA_agg, consT_cons, endT_nil, asG_agg, asTup_tup, consV_cons, endV_nil, endB_nil, consB_cons, asArr_arr, asAv_av, asMp_map, asVar_var, isBuf_buf, isPtr_ptr, needC_t, ct, cf, bNT, bNF, bTA, bAT, bFA, bAF, bTO, bOT, bFO, bOF, dT, dF]
  | m + 1, p, h => by
    have hn1 := v.a1
    have d : decide ((p : Int) < (n : Int)) = true := decide_eq_true (by omega)
    obtain ⟨zz, c1⟩ := children15 (pz := pz) (cz := cz) n v hp' p (by omega)
    obtain ⟨a, b, ha, hb, hab, hbb, hcb, _⟩ := v.segNat n p (by omega)
    have ih := L76_spec n v hp' m (p + 1) (by omega)
    rw [L7_6_eq, RL7_6, d, ct, c1, kids_kidL, callK_some]
    simp only [callK_some, asT_t, asI_int, asB_bool, asS_str, asL_list, asA_agg, consT_cons, endT_nil, asG_agg, asTup_tup, consV_cons, endV_nil, endB_nil, consB_cons, asArr_arr, asAv_av, asMp_map, asVar_var, isBuf_buf, isPtr_ptr, needC_t, ct, cf, bNT, bNF, bTA, bAT, bFA, bAF, bTO, bOT, bFO, bOF, dT, dF]
    rw [List.length_map, kidL_len p a b ha hb, ha]
    rw [hb] at ih
    have := L712_spec n v hp' p (by omega) a b ha hb hab hbb hcb true zz (n : Int) (pz := pz) (cz := cz) (b - a) 0 (by omega)
    exact this.trans ih
end
theorem all_spec (x0 : T) (f0 : FitT lvTy true x0) (a1 : Int) : ∃ st, vr 7 0 [.t x0, .t (.int .i64 a1)] ⟨[], []⟩ = some (.t (.bool true), st) := by
  obtain ⟨k, s, pz, pos, cz, crd, rfl⟩ := level_of f0
  refine ⟨e0, ?_⟩
  rw [eq7, R7, live9, callK_some, asT_t, asB_bool, endB_nil]
  obtain ⟨b, h1, h2⟩ := few18 (k := k) (s := s) (pz := pz) (cz := cz) (pos := pos) (crd := crd) a1
  rw [h1, callK_some, asT_t, asB_bool, endB_nil]
  cases b with
  | false => rw [bNF, ct]
  | true =>
    obtain ⟨hp, hc⟩ := h2 rfl
    obtain ⟨e, g1, g2, _⟩ := check19 (k := k) (s := s) (pz := pz) (cz := cz) (pos := pos) (crd := crd) a1 (by omega) (by omega)
    have fin : (callK (vr 19 0 [(.t (lvT k s pz pos cz crd)), (.t (.int .i64 a1))] e0) fun v_13 b_14 =>
        asT v_13 fun x_15 => asI .i64 x_15 fun x_16 =>
        endB b_14 <|
        (bif (!decide (x_16 = 0)) then
          (some ((.t (.bool true)), e0) : Option Res)
        else
          L7_6 a1 true 0 a1 0 k s pz (ints pos) cz (ints crd))) = some (.t (.bool true), e0) := by
      rw [g1, callK_some, asT_t, asI_int, endB_nil]
      by_cases he : e = 0
      · have v := g2.1 he
        have ha0 := v.a0
        rw [decide_eq_true he, bNT, cf]
        obtain ⟨n, rfl⟩ : ∃ n : Nat, a1 = (n : Int) := ⟨a1.toNat, by omega⟩
        have := L76_spec (pz := pz) (cz := cz) n v (by omega) n 0 (by omega)
        rw [(v.seg n).1] at this
        exact this
      · rw [decide_eq_false he, bNF, ct]
    rw [bNT, cf]
    by_cases hc3 : 300 < ((ints crd).length : Int)
    · rw [decide_eq_true hc3, ct]
    rw [decide_eq_false hc3, cf]
    by_cases ha3 : 100 < a1
    · rw [decide_eq_true ha3, ct]
    rw [decide_eq_false ha3, cf, rwhole21, callK_some, asT_t, asB_bool, endB_nil]
    cases whole k with
    | false => rw [cf]; exact fin
    | true =>
      rw [ct]
      by_cases hs3 : 100 < s
      · rw [decide_eq_true hs3, ct]
      rw [decide_eq_false hs3, cf]
      exact fin
end Go.Proofs.Ytejfkiohnoiagaa.VM
end

section
namespace Go.Proofs.Ytejfkiohnoiagaa.VM
set_option linter.unusedSectionVars false
open Go AM
theorem nth_app1 {a b : List Int} {i : Nat} (h : i < a.length) : nth (a ++ b) i = nth a i := by
  unfold nth
  rw [List.getD_eq_getElem?_getD, List.getD_eq_getElem?_getD, List.getElem?_append_left h]
theorem nth_app2 {a b : List Int} {i : Nat} : nth (a ++ b) (a.length + i) = nth b i := by
  unfold nth
  rw [List.getD_eq_getElem?_getD, List.getD_eq_getElem?_getD, List.getElem?_append_right (by omega)]
  have : a.length + i - a.length = i := by omega
  rw [this]
theorem nth_cons {x : Int} {l : List Int} {i : Nat} : nth (x :: l) (i + 1) = nth l i := rfl
theorem nth_sums : ∀ (gs : List (List Int)) (c p : Nat), p ≤ gs.length → nth ((c : Int) :: sums c gs) p = ((c + total (gs.take p) : Nat) : Int)
  | gs, c, 0, _ => by simp [nth, total]
  | [], c, p + 1, h => by simp at h
  | g :: gs, c, p + 1, h => by
    rw [nth_cons]
    unfold sums
    rw [nth_sums gs (c + g.length) p (by simpa using h), List.take_succ_cons]
    show _ = ((c + (g.length + total (gs.take p)) : Nat) : Int)
    congr 1; omega
theorem total_one : ∀ (gs : List (List Int)), (∀ g ∈ gs, g.length = 1) → total gs = gs.length
  | [], _ => rfl
  | g :: gs, h => by
    have := h g (by simp)
    have := total_one gs fun x hx => h x (List.mem_cons_of_mem _ hx)
    unfold total
    rw [List.length_cons]; omega
theorem total_app : ∀ a b : List (List Int), total (a ++ b) = total a + total b
  | [], b => by rw [List.nil_append]; show _ = 0 + _; omega
  | g :: a, b => by
    show g.length + total (a ++ b) = g.length + total a + total b
    rw [total_app a b]; omega
theorem total_take : ∀ (gs : List (List Int)) (p : Nat) (g : List Int), gs[p]? = some g → total (gs.take (p + 1)) = total (gs.take p) + g.length
  | [], p, g, h => by simp at h
  | x :: gs, 0, g, h => by
    have : x = g := by simpa using h
    subst this
    show x.length + total (gs.take 0) = 0 + x.length
    rw [List.take_zero]
    show x.length + 0 = _
    omega
  | x :: gs, p + 1, g, h => by
    have := total_take gs p g (by simpa using h)
    rw [List.take_succ_cons, List.take_succ_cons]
    show x.length + total (gs.take (p + 1)) = x.length + total (gs.take p) + g.length
    omega
theorem total_le : ∀ (gs : List (List Int)) (p : Nat), total (gs.take p) ≤ total gs
  | [], p => by simp
  | x :: gs, 0 => by rw [List.take_zero]; show 0 ≤ _; omega
  | x :: gs, p + 1 => by
    have := total_le gs p
    rw [List.take_succ_cons]
    show x.length + total (gs.take p) ≤ x.length + total gs
    omega
theorem nth_flat : ∀ (gs : List (List Int)) (p : Nat) (g : List Int) (j : Nat), gs[p]? = some g → j < g.length → nth gs.flatten (total (gs.take p) + j) = nth g j
  | [], p, g, j, h, _ => by simp at h
  | x :: gs, 0, g, j, h, hj => by
    have : x = g := by simpa using h
    subst this
    rw [List.take_zero, List.flatten_cons]
    show nth _ (0 + j) = _
    rw [Nat.zero_add, nth_app1 hj]
  | x :: gs, p + 1, g, j, h, hj => by
    rw [List.take_succ_cons, List.flatten_cons]
    show nth _ (x.length + total (gs.take p) + j) = _
    rw [Nat.add_assoc, nth_app2, nth_flat gs p g j (by simpa using h) hj]
theorem IsG.snoc {r : List T} {gs : List (List Int)} {z : Bool} {g : List Int} (h : IsG r gs) : IsG (r ++ [.list 1 z (ints g)]) (gs ++ [g]) := by
  unfold IsG at h ⊢
  induction h with
  | nil => exact .cons ⟨z, rfl⟩ .nil
  | cons a _ ih => exact .cons a ih
theorem IsG.app {r r2 : List T} {gs gs2 : List (List Int)} (h : IsG r gs) (h2 : IsG r2 gs2) : IsG (r ++ r2) (gs ++ gs2) := by
  unfold IsG at h ⊢
  induction h with
  | nil => exact h2
  | cons a _ ih => exact .cons a ih
section
variable {k s : Int} {gs : List (List Int)}
/-- What is to be of the groups. -/
structure Good (k s : Int) (gs : List (List Int)) : Prop where
  a1 : gs.length ≤ 1048576
  s0 : 0 ≤ s
  s1 : s ≤ 2147483648
  kind : k = 0 ∨ (k = 4 ∧ s ≠ 0) ∨ (k = 3 ∧ ∀ g ∈ gs, g.length = 1) ∨ k = 1 ∨ k = 2
  wh : whole k = true → (gs.length : Int) * s ≤ 1048576
  many : whole k = false → total gs ≤ 65536
  rng : whole k = false → ∀ g ∈ gs, ∀ c ∈ g, 0 ≤ c ∧ c < s
  rise : k = 1 ∨ k = 2 → ∀ g ∈ gs, ∀ j, 1 ≤ j → j < g.length → (if k = 2 then 0 else 1) ≤ nth g j - nth g (j - 1)
theorem whole_false (h : k = 1 ∨ k = 2 ∨ k = 3) : whole k = false := by rcases h with rfl | rfl | rfl <;> rfl
theorem pos_seg (hk : k = 1 ∨ k = 2) (p : Nat) (hp : p ≤ gs.length) : nth (mkPos k gs) p = ((total (gs.take p) : Nat) : Int) := by
  unfold mkPos
  rw [if_pos hk]
  have := nth_sums gs 0 p hp
  rw [Nat.zero_add] at this
  exact this
theorem crd_flat (hw : whole k = false) : mkCrd k gs = gs.flatten := by unfold mkCrd; rw [hw, if_neg (by simp)]
theorem crd_whole (hw : whole k = true) : mkCrd k gs = [] := by unfold mkCrd; rw [hw, if_pos rfl]
theorem pos_none (hk : ¬ (k = 1 ∨ k = 2)) : mkPos k gs = [] := by unfold mkPos; rw [if_neg hk]
theorem pos_len (hk : k = 1 ∨ k = 2) : (mkPos k gs).length = gs.length + 1 := by unfold mkPos; rw [if_pos hk, List.length_cons, sums_len]
theorem total_mono (a b : Nat) (h : a ≤ b) : total (gs.take a) ≤ total (gs.take b) := by
  have : gs.take a = (gs.take b).take a := by rw [List.take_take]; congr 1; omega
  rw [this]
  exact total_le _ _
theorem rise_iff (hk : k = 1 ∨ k = 2) (least : Int) : Rise least (mkPos k gs) (mkCrd k gs) gs.length ↔ ∀ g ∈ gs, ∀ j, 1 ≤ j → j < g.length → least ≤ nth g j - nth g (j - 1) := by
  rw [crd_flat (whole_false (by omega))]
  constructor
  · intro h g hg j h1 h2
    obtain ⟨p, hp, he⟩ := List.mem_iff_getElem.1 hg
    have hgp : gs[p]? = some g := by rw [List.getElem?_eq_getElem hp, he]
    have := h p hp (total (gs.take p) + j) (by rw [pos_seg hk p (by omega)]; omega) (by rw [pos_seg hk (p + 1) (by omega), total_take gs p g hgp]; omega)
    rw [nth_flat gs p g j hgp h2] at this
    have e : total (gs.take p) + j - 1 = total (gs.take p) + (j - 1) := by omega
    rw [e, nth_flat gs p g (j - 1) hgp (by omega)] at this
    exact this
  · intro h p hp i h1 h2
    have hgp : gs[p]? = some (gs[p]'hp) := List.getElem?_eq_getElem hp
    rw [pos_seg hk p (by omega)] at h1
    rw [pos_seg hk (p + 1) (by omega), total_take gs p _ hgp] at h2
    have := h _ (List.getElem_mem hp) (i - total (gs.take p)) (by omega) (by omega)
    have e1 : i = total (gs.take p) + (i - total (gs.take p)) := by omega
    have e2 : i - 1 = total (gs.take p) + (i - total (gs.take p) - 1) := by omega
    rw [e2]
    conv => rhs; arg 1; rw [e1]
    rw [nth_flat gs p _ _ hgp (by omega), nth_flat gs p _ _ hgp (by omega)]
    exact this
theorem total_all : gs.take gs.length = gs := List.take_of_length_le (Nat.le_refl _)
theorem make_good : MakeOK k s gs ↔ Good k s gs := by
  constructor
  · rintro ⟨h3, v⟩
    have ha1 := v.a1
    refine ⟨by omega, v.s0, v.s1, ?_, fun hw => ?_, fun hw => ?_, fun hw g hg c hc => ?_, fun hk => ?_⟩
    · rcases v.form with ⟨h | h, _⟩ | ⟨h, _⟩ | ⟨h | h, _⟩
      · exact .inl h
      · exact .inr (.inl h)
      · exact .inr (.inr (.inl ⟨h, h3 h⟩))
      · exact .inr (.inr (.inr (.inl h)))
      · exact .inr (.inr (.inr (.inr h)))
    · have := v.below
      unfold belowN at this
      rw [hw, if_pos rfl] at this
      exact this
    · have := v.many
      rw [crd_flat hw, total_flatten] at this
      exact this
    · have := v.rng c (by rw [crd_flat hw]; exact List.mem_flatten.2 ⟨g, hg, hc⟩)
      exact this
    · have := v.rise hk
      rw [Int.toNat_natCast] at this
      exact (rise_iff hk _).1 this
  · intro g
    have hmany : (mkCrd k gs).length ≤ 65536 := by
      cases hw : whole k with
      | true => rw [crd_whole hw]; simp
      | false => rw [crd_flat hw, total_flatten]; exact g.many hw
    refine ⟨fun h => ?_, by omega, by have := g.a1; omega, g.s0, g.s1, ?_, hmany, ?_, fun c hc => ?_, fun hk => ?_⟩
    · rcases g.kind with h' | ⟨h', _⟩ | ⟨_, h'⟩ | h' | h'
      · omega
      · omega
      · exact h'
      · omega
      · omega
    · have fk : k = 1 ∨ k = 2 → Formed k s (mkPos k gs) (mkCrd k gs) (gs.length : Int) := fun hk => by
        refine .inr (.inr ⟨hk, by rw [pos_len hk]; simp, ?_, ?_, fun j h1 h2 => ?_⟩)
        · rw [pos_seg hk 0 (by omega), List.take_zero]; rfl
        · rw [Int.toNat_natCast, pos_seg hk _ (Nat.le_refl _), total_all, crd_flat (whole_false (by omega)), total_flatten]
        · rw [pos_len hk] at h2
          rw [pos_seg hk j (by omega), pos_seg hk (j - 1) (by omega)]
          have := total_mono (gs := gs) (j - 1) j (by omega)
          omega
      rcases g.kind with h | ⟨h, h'⟩ | ⟨h, h'⟩ | h | h
      · exact .inl ⟨.inl h, pos_none (by omega), crd_whole (by subst h; rfl)⟩
      · exact .inl ⟨.inr ⟨h, h'⟩, pos_none (by omega), crd_whole (by subst h; rfl)⟩
      · exact .inr (.inl ⟨h, pos_none (by omega), by rw [crd_flat (whole_false (by omega)), total_flatten, total_one gs h']⟩)
      · exact fk (.inl h)
      · exact fk (.inr h)
    · unfold belowN
      cases hw : whole k with
      | true => rw [if_pos rfl]; exact g.wh hw
      | false => rw [if_neg (by simp)]; omega
    · cases hw : whole k with
      | true => rw [crd_whole hw] at hc; simp at hc
      | false =>
        rw [crd_flat hw] at hc
        obtain ⟨x, hx, hcx⟩ := List.mem_flatten.1 hc
        exact g.rng hw x hx c hcx
    · rw [Int.toNat_natCast]
      exact (rise_iff hk _).2 (g.rise hk)
/-- Where the children of a group lie. -/
theorem made_seg (g : Good k s gs) (hw : whole k = false) (p : Nat) (hp : p ≤ gs.length) : segA k s (mkPos k gs) p = ((total (gs.take p) : Nat) : Int) := by
  unfold segA
  rcases g.kind with h | ⟨h, h'⟩ | ⟨h, h'⟩ | h | h
  · subst h; cases hw
  · subst h; cases hw
  · rw [if_neg (by omega), if_pos h, total_one (gs.take p) fun x hx => h' x (List.mem_of_mem_take hx), List.length_take]
    congr 1; omega
  · rw [if_pos (.inl h), pos_seg (.inl h) p hp]
  · rw [if_pos (.inr h), pos_seg (.inr h) p hp]
/-- The places of a group's children are the group. -/
theorem made_kids (g : Good k s gs) (hw : whole k = false) (p : Nat) (x : List Int) (hx : gs[p]? = some x) : (kidL k s (mkPos k gs) (mkCrd k gs) p).map (·.1) = x := by
  have hp : p < gs.length := (List.getElem?_eq_some_iff.1 hx).1
  have ha := made_seg g hw p (by omega)
  have hb := made_seg g hw (p + 1) (by omega)
  rw [total_take gs p x hx] at hb
  have hl := kidL_len (crd := mkCrd k gs) p _ _ ha hb
  refine nth_ext (by rw [List.length_map, hl]; omega) fun i hi => ?_
  rw [List.length_map, hl] at hi
  have h1 := kidL_at (crd := mkCrd k gs) p _ _ ha hb (i := i) hi
  have h2 : ((kidL k s (mkPos k gs) (mkCrd k gs) p).map (·.1))[i]? = some (nth x i) := by
    rw [List.getElem?_map, h1]
    show some (atOf k (mkCrd k gs) _ _) = _
    unfold atOf
    rw [hw, if_neg (by simp), Int.toNat_natCast, crd_flat hw, nth_flat gs p x i hx (by omega)]
  rw [nth_at (by rw [List.length_map, hl]; exact hi)] at h2
  exact Option.some.inj h2
theorem made_kids_whole (hw : whole k = true) (hs : 0 ≤ s) (p : Nat) : (kidL k s (mkPos k gs) (mkCrd k gs) p).length = s.toNat := by
  unfold kidL
  rw [List.length_map, List.length_range, segA_whole hw, segA_whole hw, Int.natCast_add, Int.add_mul]
  omega
end
theorem same17 {k s : Int} {pz cz pz2 cz2 : Bool} {pos crd : List Int} (hp : pos.length ≤ 9223372036854775806) (hc : crd.length ≤ 9223372036854775806) : vr 17 0 [.t (lvT k s pz pos cz crd), .t (lvT k s pz2 pos cz2 crd)] e0 = some (.t (.bool true), e0) := by
  rw [eq17, R17, decide_eq_true rfl, decide_eq_true rfl, bTA, bTA, ct, equal32 _ _ _ _ hp, decide_eq_true rfl, callK_some]
  simp only [callK_some, asT_t, asI_int, asB_bool, asS_str, asL_list, asA_agg, consT_cons, endT_nil, asG_agg, asTup_tup, consV_cons, endV_nil, endB_nil, consB_cons, asArr_arr, asAv_av, asMp_map, asVar_var, isBuf_buf, isPtr_ptr, needC_t, ct, cf, bNT, bNF, bTA, bAT, bFA, bAF, bTO, bOT, bFO, bOF, dT, dF]
  rw [equal32 _ _ _ _ hc, decide_eq_true rfl, callK_some]
  simp only [callK_some, asT_t, asI_int, asB_bool, asS_str, asL_list, asA_agg, consT_cons, endT_nil, asG_agg, asTup_tup, consV_cons, endV_nil, endB_nil, consB_cons, asArr_arr, asAv_av, asMp_map, asVar_var, isBuf_buf, isPtr_ptr, needC_t, ct, cf, bNT, bNF, bTA, bAT, bFA, bAF, bTO, bOT, bFO, bOF, dT, dF]
end Go.Proofs.Ytejfkiohnoiagaa.VM
end

section
namespace Go.Proofs.Ytejfkiohnoiagaa.VM
set_option linter.unusedSectionVars false
open Go AM
/-- Groups, as they are handed over. -/
abbrev grTy : List Ty1 := [.list [.list [.int .i64] false] false]
theorem groups_el : ∀ l : List T, (∀ y ∈ l, ∃ ts, y = packT false ts ∧ fits [.list [.int .i64] false] ts) → ∃ gs : List (List Int), IsG l gs
  | [], _ => ⟨[], .nil⟩
  | y :: l, h => by
    obtain ⟨gs, hg⟩ := groups_el l fun y hy => h y (List.mem_cons_of_mem _ hy)
    obtain ⟨ts, rfl, h6⟩ := h y (by simp)
    unfold fits at h6
    obtain ⟨a, r1, rfl, ha, h6⟩ := h6
    unfold fits at h6
    subst h6
    unfold fit1 at ha
    obtain ⟨z, r, rfl, _, _, h1⟩ := ha
    obtain ⟨g, rfl⟩ := ints_of r h1
    exact ⟨g :: gs, .cons ⟨z, rfl⟩ hg⟩
theorem groups_of {x : T} (h : FitT grTy false x) : ∃ z r gs, x = .list 1 z r ∧ IsG r gs ∧ (z = false → r = []) := by
  obtain ⟨ts, rfl, h⟩ := h
  unfold fits at h
  obtain ⟨a, r1, rfl, ha, h⟩ := h
  unfold fits at h
  subst h
  unfold fit1 at ha
  obtain ⟨z, l, rfl, _, h2, h1⟩ := ha
  obtain ⟨gs, hg⟩ := groups_el l h1
  exact ⟨z, l, gs, rfl, hg, h2⟩
theorem IsG.at {r : List T} {gs : List (List Int)} (h : IsG r gs) {i : Nat} (hi : i < gs.length) : ∃ g z, gs[i]? = some g ∧ r[i]? = some (.list 1 z (ints g)) := by
  have hl := h.length
  obtain ⟨g, hgi, z, hz⟩ := h.get (List.getElem?_eq_getElem (by omega : i < r.length))
  exact ⟨g, z, hgi, by rw [List.getElem?_eq_getElem (by omega), hz]⟩
theorem total_bound : ∀ (gs : List (List Int)) (b : Nat), (∀ g ∈ gs, g.length ≤ b) → total gs ≤ b * gs.length
  | [], b, _ => by show 0 ≤ _; omega
  | g :: gs, b, h => by
    have h1 := h g (by simp)
    have h2 := total_bound gs b fun x hx => h x (List.mem_cons_of_mem _ hx)
    show g.length + total gs ≤ _
    rw [List.length_cons, Nat.mul_add]; omega
section
variable {k s : Int} {pz cz : Bool} {pos crd : List Int} {gs : List (List Int)}
theorem L522_go (gz : Bool) (G : List T) (up g14z : Bool) (g14 : List T) (t56z : Bool) (t56 : List T) (t57 t58 : Int) (zz : Bool) (pl : List (Int × Int)) (hb : pl.length ≤ 1048576) (m9z : Bool) (m9 : List T) : ∀ (m i : Nat) (z : Bool) (out : List Int), m + i = pl.length → out.length ≤ i →
    ∃ z', L5_22 k s gz G up g14z g14 t56z t56 t57 t58 zz (pl.map fun q => kidT q.1 q.2) (pl.length : Int) (i : Int) k s pz (ints pos) cz (ints crd) m9z m9 z (ints out) = L5_22 k s gz G up g14z g14 t56z t56 t57 t58 zz (pl.map fun q => kidT q.1 q.2) (pl.length : Int) (pl.length : Int) k s pz (ints pos) cz (ints crd) m9z m9 z' (ints (out ++ (pl.drop i).map (·.1)))
  | 0, i, z, out, h, ho => by
    have e : i = pl.length := by omega
    subst e
    refine ⟨z, ?_⟩
    rw [List.drop_of_length_le (Nat.le_refl _), List.map_nil, List.append_nil]
  | m + 1, i, z, out, h, ho => by
    have d : decide ((i : Int) < (pl.length : Int)) = true := decide_eq_true (by omega)
    have hq : pl[i]? = some (pl[i]'(by omega)) := List.getElem?_eq_getElem (by omega)
    generalize pl[i]'(by omega) = q at hq
    have hd : pl.drop i = q :: pl.drop (i + 1) := by
      obtain ⟨g1, g2⟩ := List.getElem?_eq_some_iff.1 hq
      rw [List.drop_eq_getElem_cons g1, g2]
    have n1 : (decide (((ints out).length + 1) * (8 + 1) ≤ 70368744177664) && decide (8 ≤ 1048576)) = true := by rw [decide_eq_true (by rw [ints_len]; omega)]; rfl
    obtain ⟨z', ih⟩ := L522_go gz G up g14z g14 t56z t56 t57 t58 zz pl hb m9z m9 m (i + 1) true (out ++ [q.1]) (by omega) (by simp; omega)
    refine ⟨z', ?_⟩
    rw [L5_22_eq, RL5_22, d, ct, needNat, Int.toNat_natCast, getK hq]
    simp only [callK_some, asT_t, asI_int, asB_bool, asS_str, asL_list, asA_agg, consT_cons, endT_nil, asG_agg, asTup_tup, consV_cons, endV_nil, endB_nil, consB_cons, asArr_arr, asAv_av, asMp_map, asVar_var, isBuf_buf, isPtr_ptr, needC_t, ct, cf, bNT, bNF, bTA, bAT, bFA, bAF, bTO, bOT, bFO, bOF, dT, dF]
    rw [needC_true n1, natWrap (by omega), hd]
    have e1 : ints out ++ ([(.int .i64 q.1)] : List T) = ints (out ++ [q.1]) := by simp
    have e2 : out ++ (q :: pl.drop (i + 1)).map (·.1) = out ++ [q.1] ++ (pl.drop (i + 1)).map (·.1) := by simp
    rw [e1, e2]
    exact ih
theorem L515_spec (h : Good k s gs) (hs : whole k = true → s ≤ 100) (hg : gs.length ≤ 100) (ht : total gs ≤ 100000) (gz : Bool) (G : List T) (hG : IsG G gs) : ∀ (m p : Nat) (z : Bool) (own : List T) (os : List (List Int)), m + p = gs.length → IsG own os → os.length = p → (whole k = false → os = gs.take p) → (whole k = true → total os ≤ 100 * p) →
    L5_15 k s gz G true gz G (G.length : Int) (p : Int) k s pz (ints (mkPos k gs)) cz (ints (mkCrd k gs)) z own = some (.t (.bool true), e0)
  | 0, p, z, own, os, hm, ho, hl, h1, h2 => by
    have hlen := hG.length
    have hpg : p = gs.length := by omega
    have d : decide ((p : Int) < (G.length : Int)) = false := decide_eq_false (by omega)
    have good : Good k s os ∧ mkPos k os = mkPos k gs ∧ mkCrd k os = mkCrd k gs ∧ total os ≤ 2000000 := by
      cases hw : whole k with
      | false =>
        have e : os = gs := by rw [h1 hw, hpg, total_all]
        subst e
        exact ⟨h, rfl, rfl, by omega⟩
      | true =>
        have hk : k = 0 ∨ k = 4 := by
          unfold whole at hw
          simpa using hw
        refine ⟨⟨by have := h.a1; omega, h.s0, h.s1, ?_, fun hw => ?_, fun hw' => ?_, fun hw' => ?_, fun hk' => by omega⟩, ?_, ?_, ?_⟩
        · rcases h.kind with g | g | ⟨g, _⟩ | g | g
          · exact .inl g
          · exact .inr (.inl g)
          · omega
          · omega
          · omega
        · have := h.wh hw
          rw [hl, hpg]; exact this
        · rw [hw] at hw'; cases hw'
        · rw [hw] at hw'; cases hw'
        · rw [pos_none (by omega), pos_none (by omega)]
        · rw [crd_whole hw, crd_whole hw]
        · have := h2 hw
          omega
    have hmax : (mkPos k gs).length ≤ 1000000 ∧ (mkCrd k gs).length ≤ 1000000 := by
      constructor
      · by_cases hk : k = 1 ∨ k = 2
        · rw [pos_len hk]; omega
        · rw [pos_none hk]; simp
      · cases hw : whole k with
        | true => rw [crd_whole hw]; simp
        | false => rw [crd_flat hw, total_flatten]; omega
    rw [L5_15_eq, RL5_15, d, cf]
    rcases make10 k s z own os ho (by omega) good.2.2.2 with ⟨e, _, _, g3⟩ | ⟨pz2, cz2, g1, _⟩
    · exact absurd (make_good.2 good.1) g3
    · rw [good.2.1, good.2.2.1] at g1
      rw [g1, callK_some]
      simp only [callK_some, asT_t, asI_int, asB_bool, asS_str, asL_list, asA_agg, consT_cons, endT_nil, asG_agg, asTup_tup, consV_cons, endV_nil, endB_nil, consB_cons, asArr_arr, asAv_av, asMp_map, asVar_var, isBuf_buf, isPtr_ptr, needC_t, ct, cf, bNT, bNF, bTA, bAT, bFA, bAF, bTO, bOT, bFO, bOF, dT, dF]
      rw [same17 (by omega) (by omega), callK_some]
      simp only [callK_some, asT_t, asI_int, asB_bool, asS_str, asL_list, asA_agg, consT_cons, endT_nil, asG_agg, asTup_tup, consV_cons, endV_nil, endB_nil, consB_cons, asArr_arr, asAv_av, asMp_map, asVar_var, isBuf_buf, isPtr_ptr, needC_t, ct, cf, bNT, bNF, bTA, bAT, bFA, bAF, bTO, bOT, bFO, bOF, dT, dF]
  | m + 1, p, z, own, os, hm, ho, hl, h1, h2 => by
    have hlen := hG.length
    have hlo := ho.length
    have d : decide ((p : Int) < (G.length : Int)) = true := decide_eq_true (by omega)
    obtain ⟨g, zg, hg1, hg2⟩ := hG.at (by omega : p < gs.length)
    have v := (make_good.2 h).2
    have hmax : (mkPos k gs).length ≤ 1000000 := by
      by_cases hk : k = 1 ∨ k = 2
      · rw [pos_len hk]; omega
      · rw [pos_none hk]; simp
    obtain ⟨zz, c1⟩ := children15 (pz := pz) (cz := cz) gs.length v (by omega) p (by omega)
    obtain ⟨a, b, ha, hb, hab, hbb, hcb, _⟩ := v.segNat gs.length p (by omega)
    have hkl := kidL_len (crd := mkCrd k gs) p a b ha hb
    have hGl : (G.length : Int) = (gs.length : Int) := by omega
    have n1 : (decide ((own.length + 1) * (24 + 1) ≤ 70368744177664) && decide (24 ≤ 1048576)) = true := by rw [decide_eq_true (by omega)]; rfl
    rw [L5_15_eq, RL5_15, d, ct, needNat, Int.toNat_natCast, getT_at hg2, asL_list, hGl, c1, kids_kidL, callK_some]
    simp only [callK_some, asT_t, asI_int, asB_bool, asS_str, asL_list, asA_agg, consT_cons, endT_nil, asG_agg, asTup_tup, consV_cons, endV_nil, endB_nil, consB_cons, asArr_arr, asAv_av, asMp_map, asVar_var, isBuf_buf, isPtr_ptr, needC_t, ct, cf, bNT, bNF, bTA, bAT, bFA, bAF, bTO, bOT, bFO, bOF, dT, dF]
    obtain ⟨z', b1⟩ := L522_go (k := k) (s := s) (pz := pz) (cz := cz) (pos := mkPos k gs) (crd := mkCrd k gs) gz G true zg (ints g) gz G (gs.length : Int) (p : Int) zz (kidL k s (mkPos k gs) (mkCrd k gs) p) (by omega) z own (kidL k s (mkPos k gs) (mkCrd k gs) p).length 0 false [] (by omega) (by simp)
    rw [List.length_map]
    refine Eq.trans b1 ?_
    rw [List.drop_zero, List.nil_append]
    have dd : decide (((kidL k s (mkPos k gs) (mkCrd k gs) p).length : Int) < ((kidL k s (mkPos k gs) (mkCrd k gs) p).length : Int)) = false := decide_eq_false (by omega)
    rw [L5_22_eq, RL5_22, dd, cf, whole14, callK_some, asT_t, asB_bool, endB_nil]
    cases hw : whole k with
    | false =>
      have hmk := made_kids h hw p g hg1
      rw [bNF, ct, hmk, equal16 _ _ _ _ (by have := List.getElem?_eq_some_iff.1 hg1; have ht' := total_take gs p g hg1; have := total_le gs (p + 1); omega), decide_eq_true rfl, callK_some, asT_t, asB_bool, endB_nil, bNT, cf, callK_some, asT_t, asB_bool, endB_nil, cf, needC_true n1, natWrap (by omega), ← hGl]
      refine L515_spec h hs hg ht gz G hG m (p + 1) _ _ (os ++ [g]) (by omega) ho.snoc (by simp [hl]) (fun _ => ?_) (fun hw' => by rw [hw] at hw'; cases hw')
      rw [h1 hw, List.take_add_one, hg1]
      rfl
    | true =>
      have hs' := hs hw
      have hs0 := h.s0
      have hkw := made_kids_whole (gs := gs) hw h.s0 p
      have e : (((ints ((kidL k s (mkPos k gs) (mkCrd k gs) p).map (·.1))).length : Nat) : Int) = s := by
        rw [ints_len, List.length_map, hkw]; omega
      rw [bNT, cf, callK_some, asT_t, asB_bool, endB_nil, ct, decide_eq_true e, bNT, cf, needC_true n1, natWrap (by omega), ← hGl]
      refine L515_spec h hs hg ht gz G hG m (p + 1) _ _ (os ++ [(kidL k s (mkPos k gs) (mkCrd k gs) p).map (·.1)]) (by omega) ho.snoc (by simp [hl]) (fun hw' => by rw [hw] at hw'; cases hw') (fun _ => ?_)
      rw [total_app]
      have := h2 hw
      show _ + (_ + 0) ≤ _
      rw [List.length_map, hkw]
      omega
theorem L55_go (gz : Bool) (G : List T) (hG : IsG G gs) (hb : gs.length ≤ 1000) : ∀ (m i : Nat), m + i = gs.length →
    (L5_5 k s gz G true gz G (G.length : Int) (i : Int) = some (.t (.bool true), e0)) ∨
    ((∀ g ∈ gs.drop i, g.length ≤ 300) ∧ L5_5 k s gz G true gz G (G.length : Int) (i : Int) = L5_5 k s gz G true gz G (G.length : Int) (G.length : Int))
  | 0, i, h => by
    have hlen := hG.length
    have e : i = G.length := by omega
    subst e
    right
    rw [List.drop_of_length_le (by omega)]
    exact ⟨fun g hg => by simp at hg, rfl⟩
  | m + 1, i, h => by
    have hlen := hG.length
    have d : decide ((i : Int) < (G.length : Int)) = true := decide_eq_true (by omega)
    obtain ⟨g, zg, hg1, hg2⟩ := hG.at (by omega : i < gs.length)
    have hd : gs.drop i = g :: gs.drop (i + 1) := by
      obtain ⟨g1, g2⟩ := List.getElem?_eq_some_iff.1 hg1
      rw [List.drop_eq_getElem_cons g1, g2]
    have eq : L5_5 k s gz G true gz G (G.length : Int) (i : Int) = (bif decide (300 < ((ints g).length : Int)) then some ((.t (.bool true)), e0) else L5_5 k s gz G true gz G (G.length : Int) ((i + 1 : Nat) : Int)) := by
      conv => lhs; rw [L5_5_eq, RL5_5, d, ct, needNat, Int.toNat_natCast, getT_at hg2, asL_list, natWrap (by omega)]
    rw [eq, hd]
    by_cases hg : 300 < ((ints g).length : Int)
    · rw [decide_eq_true hg, ct]
      exact .inl rfl
    · rw [decide_eq_false hg, cf]
      rw [ints_len] at hg
      rcases L55_go gz G hG hb m (i + 1) (by omega) with h1 | ⟨h1, h2⟩
      · exact .inl h1
      · refine .inr ⟨fun x hx => ?_, h2⟩
        rcases List.mem_cons.1 hx with rfl | hx
        · omega
        · exact h1 x hx
end
theorem back_spec (k s : Int) (x2 : T) (f2 : FitT grTy false x2) : ∃ st, vr 5 0 [.t (.int .i64 k), .t (.int .i64 s), .t x2] ⟨[], []⟩ = some (.t (.bool true), st) := by
  obtain ⟨gz, G, gs, rfl, hG, _⟩ := groups_of f2
  have hlen := hG.length
  refine ⟨e0, ?_⟩
  rw [eq5, R5, live9, callK_some, asT_t, asB_bool, endB_nil]
  by_cases h1 : 100 < (G.length : Int)
  · rw [decide_eq_true h1, ct]
  rw [decide_eq_false h1, cf]
  rcases L55_go (k := k) (s := s) gz G hG (by omega) gs.length 0 (by omega) with h2 | ⟨h2, h3⟩
  · exact h2
  refine Eq.trans h3 ?_
  rw [List.drop_zero] at h2
  have ht := total_bound gs 300 h2
  have d : decide ((G.length : Int) < (G.length : Int)) = false := decide_eq_false (by omega)
  rw [L5_5_eq, RL5_5, d, cf]
  rcases make10 k s gz G gs hG (by omega) (by omega) with ⟨e, he, g2, g3⟩ | ⟨pz, cz, g1, g2⟩
  · rw [g2, callK_some]
    simp only [callK_some, asT_t, asI_int, asB_bool, asS_str, asL_list, asA_agg, consT_cons, endT_nil, asG_agg, asTup_tup, consV_cons, endV_nil, endB_nil, consB_cons, asArr_arr, asAv_av, asMp_map, asVar_var, isBuf_buf, isPtr_ptr, needC_t, ct, cf, bNT, bNF, bTA, bAT, bFA, bAF, bTO, bOT, bFO, bOF, dT, dF]
    rw [decide_eq_false he, bNF, ct]
  · have hgood := make_good.1 g2
    have go : (whole k = true → s ≤ 100) → L5_15 k s gz G true gz G (G.length : Int) 0 k s pz (ints (mkPos k gs)) cz (ints (mkCrd k gs)) false [] = some (.t (.bool true), e0) := fun hs =>
      L515_spec hgood hs (by omega) (by omega) gz G hG gs.length 0 false [] [] (by omega) .nil rfl (fun _ => by simp) (fun _ => by show 0 ≤ _; omega)
    rw [g1, callK_some]
    simp only [callK_some, asT_t, asI_int, asB_bool, asS_str, asL_list, asA_agg, consT_cons, endT_nil, asG_agg, asTup_tup, consV_cons, endV_nil, endB_nil, consB_cons, asArr_arr, asAv_av, asMp_map, asVar_var, isBuf_buf, isPtr_ptr, needC_t, ct, cf, bNT, bNF, bTA, bAT, bFA, bAF, bTO, bOT, bFO, bOF, dT, dF]
    rw [whole14, callK_some, asT_t, asB_bool, endB_nil]
    cases hw : whole k with
    | false => rw [cf]; exact go fun h => by rw [hw] at h; cases h
    | true =>
      rw [ct]
      by_cases hs : 100 < s
      · rw [decide_eq_true hs, ct]
      · rw [decide_eq_false hs, cf]
        exact go fun _ => by omega
end Go.Proofs.Ytejfkiohnoiagaa.VM
end
