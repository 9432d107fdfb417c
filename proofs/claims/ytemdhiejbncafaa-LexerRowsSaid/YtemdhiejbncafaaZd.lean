/- Merged: Zd1. Conditions: none. -/
import Derived.Test.YtemdhiejbncafaaZc
set_option linter.all false
section
namespace Go.Proofs.Ytemdhiejbncafaa.VM
set_option linter.unusedSectionVars false
open Go AM
/-- A list of tokens, as it is handed over. -/
abbrev tokTy : List Ty1 := [.list [.int .i64, .str, .int .i64] true]
theorem toks_of {x : T} (h : FitT tokTy false x) : ∃ z l, x = .list 3 z l ∧ (z = false → l = []) ∧ (∀ y ∈ l, IsTok y) ∧ l.length ≤ maxLen := by
  obtain ⟨ts, rfl, h⟩ := h
  unfold fits at h
  obtain ⟨t, r, rfl, h1, h2⟩ := h
  unfold fits at h2
  subst h2
  unfold fit1 at h1
  obtain ⟨z, l, rfl, h3, h4, h5⟩ := h1
  refine ⟨z, l, rfl, h4, fun y hy => ?_, h3⟩
  obtain ⟨ts, rfl, h6⟩ := h5 y hy
  unfold fits at h6
  obtain ⟨a, r1, rfl, ha, h6⟩ := h6
  unfold fits at h6
  obtain ⟨b, r2, rfl, hb, h6⟩ := h6
  unfold fits at h6
  obtain ⟨c, r3, rfl, hc, h6⟩ := h6
  unfold fits at h6
  subst h6
  unfold fit1 at ha hb hc
  obtain ⟨n, rfl, _⟩ := ha
  obtain ⟨s, rfl, _⟩ := hb
  obtain ⟨m, rfl, _⟩ := hc
  exact ⟨s, n, m, rfl⟩
/-- What is asked of a token. -/
def tkK : T → Int
  | .agg (.int _ k :: _) => k
  | _ => 0
def tkS : T → ByteArray
  | .agg (_ :: .str s :: _) => s
  | _ => ByteArray.empty
def isLn (x : T) : Bool := decide (tkK x = 4)
theorem getT_tok {R : Type} {l : List T} {i : Nat} (h : i < l.length) (hl : ∀ y ∈ l, IsTok y) (K : T → Option R) : ∃ s k v, l[i]? = some (tokT s k v) ∧ l[i]'h = tokT s k v ∧ getT l i K = K (tokT s k v) := by
  obtain ⟨s, k, v, hx⟩ := hl _ (List.getElem_mem h)
  have h1 : l[i]? = some (tokT s k v) := by rw [List.getElem?_eq_getElem h, hx]
  exact ⟨s, k, v, h1, hx, getT_at h1 K⟩
theorem drop_at {A : Type} {l : List A} {i : Nat} {x : A} (h : l[i]? = some x) : l.drop i = x :: l.drop (i + 1) := by
  obtain ⟨h1, h2⟩ := List.getElem?_eq_some_iff.1 h
  rw [List.drop_eq_getElem_cons h1, h2]
def fewB (l : List T) : Bool := (l.all fun t => decide ((tkS t).size ≤ 1000)) && decide (l.length ≤ 5000)
theorem L21_spec (z z2 : Bool) (l : List T) (hl : ∀ y ∈ l, IsTok y) (hb : l.length ≤ 9223372036854775807) : ∀ (m i : Nat), m + i = l.length → L21_2 z l z2 l (l.length : Int) (i : Int) = some (.t (.bool (((l.drop i).all fun t => decide ((tkS t).size ≤ 1000)) && decide (l.length ≤ 5000))), e0)
  | 0, i, h => by
    have h1 : decide ((i : Int) < (l.length : Int)) = false := decide_eq_false (by omega)
    have h2 : decide ((l.length : Int) ≤ 5000) = decide (l.length ≤ 5000) := by simp; omega
    rw [L21_2_eq, h1, cf, h2, List.drop_of_length_le (by omega)]
    rfl
  | m + 1, i, h => by
    have h1 : decide ((i : Int) < (l.length : Int)) = true := decide_eq_true (by omega)
    have h2 : decide ((0 : Int) ≤ (i : Int)) = true := decide_eq_true (by omega)
    have hw : IntKind.i64.wrap ((i : Int) + 1) = ((i + 1 : Nat) : Int) := by rw [wrap64 (by omega) (by omega)]; simp
    rw [L21_2_eq, h1, ct, h2, needC_t, Int.toNat_natCast, hw]
    obtain ⟨s, k, v, g1, g2, g3⟩ := getT_tok (R := V × St) (l := l) (i := i) (by omega) hl _
    rw [g3, drop_at g1, List.all_cons]
    unfold tokT
    rw [asA_agg, consT_cons, asI_int, consT_cons, asS_str, consT_cons, asI_int, endT_nil]
    have e1 : decide ((tkS (.agg [.int .i64 k, .str s, .int .i64 v])).size ≤ 1000) = !decide (1000 < (s.size : Int)) := by
      show decide (s.size ≤ 1000) = _
      rw [← decide_not]
      exact decide_eq_decide.2 (by omega)
    rw [e1]
    cases decide (1000 < (s.size : Int)) with
    | true => rfl
    | false => rw [cf, L21_spec z z2 l hl hb m (i + 1) (by omega)]; rfl
theorem few21 (z : Bool) (l : List T) (hl : ∀ y ∈ l, IsTok y) (hb : l.length ≤ 9223372036854775807) : vr 21 0 [.t (.list 3 z l)] e0 = some (.t (.bool (fewB l)), e0) := by
  rw [eq21]
  exact L21_spec z z l hl hb l.length 0 (by omega)
/-- How many stand ahead of the first end of a line; all, if there is none. -/
def fl : List T → Nat
  | [] => 0
  | x :: l => bif isLn x then 0 else fl l + 1
theorem fl_le : ∀ l : List T, fl l ≤ l.length
  | [] => Nat.le_refl _
  | x :: l => by
    have := fl_le l
    unfold fl
    cases isLn x <;> simp <;> omega
theorem L37_spec (z : Bool) (l : List T) (hl : ∀ y ∈ l, IsTok y) (hb : l.length ≤ 9223372036854775807) : ∀ (m i : Nat), m + i = l.length → L37_2 z l (l.length : Int) (i : Int) = some (.t (.int .i64 (if fl (l.drop i) < (l.drop i).length then ((i + fl (l.drop i) : Nat) : Int) else -1)), e0)
  | 0, i, h => by
    have h1 : decide ((i : Int) < (l.length : Int)) = false := decide_eq_false (by omega)
    rw [L37_2_eq, h1, cf, List.drop_of_length_le (by omega)]
    rfl
  | m + 1, i, h => by
    have h1 : decide ((i : Int) < (l.length : Int)) = true := decide_eq_true (by omega)
    have h2 : decide ((0 : Int) ≤ (i : Int)) = true := decide_eq_true (by omega)
    have hw : IntKind.i64.wrap ((i : Int) + 1) = ((i + 1 : Nat) : Int) := by rw [wrap64 (by omega) (by omega)]; simp
    rw [L37_2_eq, h1, ct, h2, needC_t, Int.toNat_natCast, hw]
    obtain ⟨s, k, v, g1, g2, g3⟩ := getT_tok (R := V × St) (l := l) (i := i) (by omega) hl _
    rw [g3, drop_at g1]
    unfold tokT
    rw [asA_agg, consT_cons, asI_int, consT_cons, asS_str, consT_cons, asI_int, endT_nil, eq38, callK_some, asT_t, asB_bool, endB_nil]
    have e1 : fl (.agg [.int .i64 k, .str s, .int .i64 v] :: l.drop (i + 1)) = bif decide (k = 4) then 0 else fl (l.drop (i + 1)) + 1 := rfl
    rw [e1]
    cases decide (k = 4) with
    | true => rw [ct, ct, if_pos (by simp)]; rfl
    | false =>
      rw [cf, cf, L37_spec z l hl hb m (i + 1) (by omega), List.length_cons]
      by_cases hh : fl (l.drop (i + 1)) < (l.drop (i + 1)).length
      · rw [if_pos hh, if_pos (by omega)]
        congr 5
        omega
      · rw [if_neg hh, if_neg (by omega)]
theorem index37 (z : Bool) (l : List T) (hl : ∀ y ∈ l, IsTok y) (hb : l.length ≤ 9223372036854775807) : vr 37 0 [.t (.list 3 z l), .fn 38 [] []] e0 = some (.t (.int .i64 (if fl l < l.length then (fl l : Int) else -1)), e0) := by
  rw [eq37]
  have := L37_spec z l hl hb l.length 0 (by omega)
  rw [List.drop_zero, Nat.zero_add] at this
  exact this
/-- Lists cut at ends of lines. -/
def splitL : List T → List (List T)
  | [] => [[]]
  | x :: l => bif isLn x then [] :: splitL l else match splitL l with
    | h :: t => (x :: h) :: t
    | [] => [[x]]
theorem splitL_nil : splitL [] = [[]] := rfl
theorem splitL_cons (x : T) (l : List T) : splitL (x :: l) = bif isLn x then [] :: splitL l else match splitL l with
    | h :: t => (x :: h) :: t
    | [] => [[x]] := rfl
theorem fl_cons (x : T) (l : List T) : fl (x :: l) = bif isLn x then 0 else fl l + 1 := rfl
theorem splitL_ne : ∀ l : List T, splitL l ≠ []
  | [] => by simp [splitL]
  | x :: l => by
    rw [splitL_cons]
    cases isLn x with
    | true => simp
    | false => cases splitL l <;> simp
theorem splitL_fl : ∀ l : List T, splitL l = if fl l < l.length then l.take (fl l) :: splitL (l.drop (fl l + 1)) else [l]
  | [] => rfl
  | x :: l => by
    have ih := splitL_fl l
    rw [splitL_cons, fl_cons]
    cases hx : isLn x with
    | true => simp
    | false =>
      simp only [cond_false, List.length_cons]
      rw [ih]
      by_cases h : fl l < l.length
      · rw [if_pos h, if_pos (by omega), List.take_succ_cons, List.drop_succ_cons]
      · rw [if_neg h, if_neg (by omega)]
theorem splitL_app (y : T) (hy : isLn y = true) (m : List T) : ∀ l : List T, splitL (l ++ y :: m) = splitL l ++ splitL m
  | [] => by rw [List.nil_append, splitL_cons, hy]; rfl
  | x :: l => by
    have ih := splitL_app y hy m l
    rw [List.cons_append, splitL_cons, splitL_cons, ih]
    cases isLn x with
    | true => rfl
    | false =>
      simp only [cond_false]
      cases hs : splitL l with
      | nil => exact absurd hs (splitL_ne l)
      | cons h t => rfl
theorem splitL_mem : ∀ (l : List T), ∀ p ∈ splitL l, ∀ x ∈ p, x ∈ l ∧ isLn x = false
  | [], p, hp, x, hx => by simp [splitL] at hp; subst hp; cases hx
  | y :: l, p, hp, x, hx => by
    have ih := splitL_mem l
    rw [splitL_cons] at hp
    cases hy : isLn y <;> rw [hy] at hp <;> simp only [cond_true, cond_false] at hp
    · cases hs : splitL l with
      | nil => exact absurd hs (splitL_ne l)
      | cons h t =>
        rw [hs] at hp ih
        dsimp only at hp
        rcases List.mem_cons.1 hp with rfl | hp
        · rcases List.mem_cons.1 hx with rfl | hx
          · exact ⟨by simp, hy⟩
          · obtain ⟨h1, h2⟩ := ih h (by simp) x hx
            exact ⟨List.mem_cons_of_mem _ h1, h2⟩
        · obtain ⟨h1, h2⟩ := ih p (List.mem_cons_of_mem _ hp) x hx
          exact ⟨List.mem_cons_of_mem _ h1, h2⟩
    · rcases List.mem_cons.1 hp with rfl | hp
      · cases hx
      · obtain ⟨h1, h2⟩ := ih p hp x hx
        exact ⟨List.mem_cons_of_mem _ h1, h2⟩
theorem splitL_len : ∀ l : List T, (splitL l).length ≤ l.length + 1
  | [] => by simp [splitL]
  | x :: l => by
    have ih := splitL_len l
    rw [splitL_cons]
    cases isLn x with
    | true => simp; omega
    | false =>
      simp only [cond_false]
      cases hs : splitL l with
      | nil => simp
      | cons h t => rw [hs] at ih; simp at ih ⊢; omega
/-- Lines, whatever the lists' being nil. -/
def IsLines (r : List T) (ls : List (List T)) : Prop := All2 (fun t l => ∃ z, t = .list 3 z l) r ls
theorem clone39 (z : Bool) (l : List T) (hz : z = false → l = []) (hb : l.length ≤ 100000) : ∃ z', vr 39 0 [.t (.list 3 z l)] e0 = some (.t (.list 3 z' l), e0) := by
  rw [eq39]
  cases z with
  | false => rw [hz rfl]; exact ⟨false, rfl⟩
  | true =>
    have n1 : (decide ((0 + l.length) * (32 + 1) ≤ 70368744177664) && decide (32 ≤ 1048576)) = true := by rw [decide_eq_true (by omega)]; rfl
    rw [bNT, cf, needC_true n1]
    exact ⟨true, rfl⟩
theorem cutL_take {R : Type} {l : List T} {i : Nat} (h : i ≤ l.length) (K : List T → Option R) : cutL l none (some (i : Int)) K = K (l.take i) := by
  unfold cutL
  simp only [Option.getD_none, Option.getD_some]
  rw [needC_true (by rw [decide_eq_true (by omega), decide_eq_true (by omega), decide_eq_true (by omega)]; rfl)]
  rfl
theorem cutL_drop {R : Type} {l : List T} {i : Nat} (h : i ≤ l.length) (K : List T → Option R) : cutL l (some (i : Int)) none K = K (l.drop i) := by
  unfold cutL
  simp only [Option.getD_none, Option.getD_some]
  rw [needC_true (by rw [decide_eq_true (by omega), decide_eq_true (by omega), decide_eq_true (by omega)]; rfl), Int.toNat_natCast, Int.toNat_natCast, List.take_length]
theorem L22_spec : ∀ (n : Nat) (z : Bool) (l : List T) (mz : Bool) (m : List T) (acc : List (List T)), l.length ≤ n → (z = false → l = []) → (∀ y ∈ l, IsTok y) → m.length + 2 * l.length ≤ 200000 → IsLines m acc →
    ∃ zz r, L22_2 z l mz m = some (.t (.list 1 zz r), e0) ∧ IsLines r (acc ++ (if l = [] then [] else splitL l)) := by
  intro n
  induction n with
  | zero =>
    intro z l mz m acc hn hz hl hb hm
    have : l = [] := List.length_eq_zero_iff.1 (by omega)
    subst this
    rw [L22_2_eq]
    exact ⟨mz, m, rfl, by rw [if_pos rfl, List.append_nil]; exact hm⟩
  | succ n ih =>
    intro z l mz m acc hn hz hl hb hm
    by_cases h0 : l = []
    · subst h0
      rw [L22_2_eq]
      exact ⟨mz, m, rfl, by rw [if_pos rfl, List.append_nil]; exact hm⟩
    · have hz' : z = true := by cases z with
        | true => rfl
        | false => exact absurd (hz rfl) h0
      subst hz'
      have hlp : 0 < l.length := List.length_pos_iff.2 h0
      have d1 : decide ((0 : Int) < (l.length : Int)) = true := decide_eq_true (by omega)
      have nA : (decide ((m.length + 1) * (24 + 1) ≤ 70368744177664) && decide (24 ≤ 1048576)) = true := by rw [decide_eq_true (by omega)]; rfl
      rw [L22_2_eq, d1, ct, index37 true l hl (by omega), callK_some, asT_t, asI_int, endB_nil, if_neg h0, splitL_fl l]
      have hfl := fl_le l
      by_cases hf : fl l < l.length
      · rw [if_pos hf, if_pos hf]
        have d2 : decide ((fl l : Int) < 0) = false := decide_eq_false (by omega)
        obtain ⟨z', hc⟩ := clone39 true (l.take (fl l)) (fun h => by cases h) (by rw [List.length_take]; omega)
        have hw : IntKind.i64.wrap ((fl l : Int) + 1) = ((fl l + 1 : Nat) : Int) := by rw [wrap64 (by omega) (by omega)]; simp
        have hm2 : IsLines (m ++ [.list 3 z' (l.take (fl l))]) (acc ++ [l.take (fl l)]) := hm.append (.cons ⟨z', rfl⟩ .nil)
        have hm2l : (m ++ [T.list 3 z' (l.take (fl l))]).length = m.length + 1 := by simp
        rw [d2, cf, cutL_take hfl, hc, callK_some, asT_t, asL_list, endB_nil, needC_true nA, hw, cutL_drop (by omega)]
        have hdl : (l.drop (fl l + 1)).length = l.length - (fl l + 1) := List.length_drop
        have hdm : ∀ y ∈ l.drop (fl l + 1), IsTok y := fun y hy => hl y (List.mem_of_mem_drop hy)
        by_cases he : l.drop (fl l + 1) = []
        · have d3 : decide (((l.drop (fl l + 1)).length : Int) = 0) = true := by rw [he]; rfl
          have nB : (decide ((((m ++ ([(.list 3 z' (l.take (fl l)))] : List T))).length + 1) * (24 + 1) ≤ 70368744177664) && decide (24 ≤ 1048576)) = true := by rw [decide_eq_true (by rw [hm2l]; omega)]; rfl
          rw [d3, ct, needC_true nB]
          obtain ⟨zz, r, h1, h2⟩ := ih true (l.drop (fl l + 1)) ((mz || true) || true) ((m ++ [T.list 3 z' (l.take (fl l))]) ++ [.list 3 false []]) ((acc ++ [l.take (fl l)]) ++ [[]]) (by omega) (fun h => by cases h) hdm (by rw [List.length_append, hm2l]; simp; omega) (hm2.append (.cons ⟨false, rfl⟩ .nil))
          refine ⟨zz, r, h1, ?_⟩
          rw [if_pos he, List.append_nil] at h2
          rw [he]
          have : acc ++ l.take (fl l) :: splitL [] = acc ++ [l.take (fl l)] ++ [[]] := by simp [splitL]
          rw [this]
          exact h2
        · have d3 : decide (((l.drop (fl l + 1)).length : Int) = 0) = false := decide_eq_false (by have := List.length_pos_iff.2 he; omega)
          rw [d3, cf]
          obtain ⟨zz, r, h1, h2⟩ := ih true (l.drop (fl l + 1)) (mz || true) (m ++ [T.list 3 z' (l.take (fl l))]) (acc ++ [l.take (fl l)]) (by omega) (fun h => by cases h) hdm (by rw [hm2l]; omega) hm2
          refine ⟨zz, r, h1, ?_⟩
          rw [if_neg he, List.append_assoc] at h2
          exact h2
      · rw [if_neg hf, if_neg hf]
        have d2 : decide ((-1 : Int) < 0) = true := rfl
        obtain ⟨z', hc⟩ := clone39 true l (fun h => by cases h) (by omega)
        rw [d2, ct, hc, callK_some, asT_t, asL_list, endB_nil, needC_true nA]
        exact ⟨_, _, rfl, hm.append (.cons ⟨z', rfl⟩ .nil)⟩
theorem lines22 (z : Bool) (l : List T) (hz : z = false → l = []) (hl : ∀ y ∈ l, IsTok y) (hb : l.length ≤ 90000) :
    ∃ zz r, vr 22 0 [.t (.list 3 z l)] e0 = some (.t (.list 1 zz r), e0) ∧ IsLines r (if l = [] then [] else splitL l) := by
  rw [eq22]
  obtain ⟨zz, r, h1, h2⟩ := L22_spec l.length z l false [] [] (Nat.le_refl _) hz hl (by simp; omega) .nil
  exact ⟨zz, r, h1, by rw [List.nil_append] at h2; exact h2⟩
theorem L8_17_spec (b z2 : Bool) (r : List T) (t57 t58 : Int) (z3 : Bool) (l : List T) (mz : Bool) (m : List T) (hl : ∀ y ∈ l, IsTok y ∧ isLn y = false) (hb : l.length ≤ 9223372036854775807) : ∀ (k i : Nat), k + i = l.length →
    L8_17 b z2 r t57 t58 z3 l (l.length : Int) (i : Int) mz m = L8_12 b z2 r t57 (IntKind.i64.wrap (t58 + 1)) mz m
  | 0, i, h => by
    have h1 : decide ((i : Int) < (l.length : Int)) = false := decide_eq_false (by omega)
    rw [L8_17_eq, h1, cf]
  | k + 1, i, h => by
    have h1 : decide ((i : Int) < (l.length : Int)) = true := decide_eq_true (by omega)
    have h2 : decide ((0 : Int) ≤ (i : Int)) = true := decide_eq_true (by omega)
    have hw : IntKind.i64.wrap ((i : Int) + 1) = ((i + 1 : Nat) : Int) := by rw [wrap64 (by omega) (by omega)]; simp
    rw [L8_17_eq, h1, ct, h2, needC_t, Int.toNat_natCast, hw]
    obtain ⟨s, kk, v, g1, g2, g3⟩ := getT_tok (R := V × St) (l := l) (i := i) (by omega) (fun y hy => (hl y hy).1) _
    have hn : decide (kk = 4) = false := by
      have := (hl _ (List.mem_of_getElem? g1)).2
      exact this
    rw [g3]
    unfold tokT
    rw [asA_agg, consT_cons, asI_int, consT_cons, asS_str, consT_cons, asI_int, endT_nil, hn, cf]
    exact L8_17_spec b z2 r t57 t58 z3 l mz m hl hb k (i + 1) (by omega)
theorem L8_12_spec (b z2 : Bool) (r m : List T) (mz : Bool) (ls : List (List T)) (hr : IsLines r ls) (hm : IsLines m ls) (hls : ∀ p ∈ ls, (∀ x ∈ p, IsTok x ∧ isLn x = false) ∧ p.length ≤ 100000) (hb : ls.length ≤ 100000) : ∀ (k i : Nat), k + i = ls.length →
    L8_12 b z2 r (r.length : Int) (i : Int) mz m = some (.t (.bool b), e0)
  | 0, i, h => by
    have hl := hr.length
    have h1 : decide ((i : Int) < (r.length : Int)) = false := decide_eq_false (by omega)
    rw [L8_12_eq, h1, cf]
  | k + 1, i, h => by
    have hl := hr.length
    have hl2 := hm.length
    have h1 : decide ((i : Int) < (r.length : Int)) = true := decide_eq_true (by omega)
    have h2 : decide ((0 : Int) ≤ (i : Int)) = true := decide_eq_true (by omega)
    have h3 : (decide ((0 : Int) ≤ (i : Int)) && decide ((i : Int) < (m.length : Int))) = true := by rw [h2, decide_eq_true (by omega)]; rfl
    have hw : IntKind.i64.wrap ((i : Int) + 1) = ((i + 1 : Nat) : Int) := by rw [wrap64 (by omega) (by omega)]; simp
    obtain ⟨p, hp, z3, e3⟩ := hr.get (List.getElem?_eq_getElem (by omega : i < r.length))
    obtain ⟨p', hp', z4, e4⟩ := hm.get (List.getElem?_eq_getElem (by omega : i < m.length))
    rw [hp] at hp'
    cases hp'
    have g1 : r[i]? = some (.list 3 z3 p) := by rw [List.getElem?_eq_getElem (by omega), e3]
    have g2 : m[i]? = some (.list 3 z4 p) := by rw [List.getElem?_eq_getElem (by omega), e4]
    obtain ⟨h5, h6⟩ := hls p (List.mem_of_getElem? hp)
    rw [L8_12_eq, h1, ct, needC_true h2, Int.toNat_natCast, getT_at g1, asL_list, needC_true h3, getT_at g2, asL_list, same14 _ _ p (fun x hx => (h5 x hx).1) (by omega), callK_some, asT_t, asB_bool, endB_nil, bNT, cf, needC_true h2, getT_at g1, asL_list]
    have e : (0 : Int) = ((0 : Nat) : Int) := rfl
    rw [e, L8_17_spec b z2 r _ _ z3 p mz m h5 (by omega) p.length 0 (by omega), hw]
    exact L8_12_spec b z2 r m mz ls hr hm hls hb k (i + 1) (by omega)
theorem rows_spec (x0 : T) (f0 : FitT tokTy false x0) (x1 : T) (f1 : FitT tokTy false x1) : ∃ st, vr 8 0 [.t x0, .t x1] ⟨[], []⟩ = some (.t (.bool true), st) := by
  refine ⟨e0, ?_⟩
  obtain ⟨z0, a, rfl, hz0, ha, la⟩ := toks_of f0
  obtain ⟨z1, b, rfl, hz1, hb, lb⟩ := toks_of f1
  have hmax : maxLen ≤ 9223372036854775807 := by unfold maxLen; decide
  rw [eq8, live11, few21 z0 a ha (by omega), few21 z1 b hb (by omega)]
  simp only [callK_some, asT_t, asB_bool, endB_nil]
  cases hfa : fewB a with
  | false => rw [bNF, ct]
  | true =>
    cases hfb : fewB b with
    | false => rw [bNT, cf, bNF, ct]
    | true =>
      rw [bNT, cf, cf]
      have ka : a.length ≤ 5000 := by unfold fewB at hfa; simp at hfa; exact hfa.2
      have kb : b.length ≤ 5000 := by unfold fewB at hfb; simp at hfb; exact hfb.2
      by_cases h0 : a = []
      · subst h0
        have d : decide ((([] : List T).length : Int) = 0) = true := rfl
        rw [d, ct]
      by_cases h1 : b = []
      · subst h1
        have d : decide ((([] : List T).length : Int) = 0) = true := rfl
        rw [d, ct]
        cases decide ((a.length : Int) = 0) <;> rfl
      have pa := List.length_pos_iff.2 h0
      have pb := List.length_pos_iff.2 h1
      have n1 : (decide (a.length * (32 + 1) ≤ 70368744177664) && decide (32 ≤ 1048576)) = true := by rw [decide_eq_true (by omega)]; rfl
      have n2 : (decide ((a.length + 1) * (32 + 1) ≤ 70368744177664) && decide (32 ≤ 1048576)) = true := by rw [decide_eq_true (by omega)]; rfl
      have hab : ((a ++ ([(.agg [(.int .i64 4), (.str ByteArray.empty), (.int .i64 0)])] : List T))).length = a.length + 1 := by simp
      have n3 : (decide ((((a ++ ([(.agg [(.int .i64 4), (.str ByteArray.empty), (.int .i64 0)])] : List T))).length + b.length) * (32 + 1) ≤ 70368744177664) && decide (32 ≤ 1048576)) = true := by rw [decide_eq_true (by rw [hab]; omega)]; rfl
      have htok : ∀ y ∈ (a ++ ([(.agg [(.int .i64 4), (.str ByteArray.empty), (.int .i64 0)])] : List T)) ++ b, IsTok y := by
        intro y hy
        rcases List.mem_append.1 hy with h | h
        · rcases List.mem_append.1 h with h | h
          · exact ha y h
          · rw [List.mem_singleton] at h; rw [h]; exact line_tok
        · exact hb y h
      have hall : (a ++ ([(.agg [(.int .i64 4), (.str ByteArray.empty), (.int .i64 0)])] : List T)) ++ b = a ++ lineT :: b := by simp [lineT]
      obtain ⟨zx, rx, ex, lx⟩ := lines22 z0 a hz0 ha (by omega)
      obtain ⟨zy, ry, ey, ly⟩ := lines22 z1 b hz1 hb (by omega)
      obtain ⟨zw, rw1, ew, lw⟩ := lines22 (((!a.isEmpty) || true) || (!b.isEmpty)) _ (by intro h; rw [bOT, bTO] at h; cases h) htok (by rw [List.length_append, hab]; omega)
      rw [if_neg h0] at lx
      rw [if_neg h1] at ly
      rw [hall, if_neg (by simp), splitL_app lineT rfl] at lw
      have lz := lx.append ly
      have sx := splitL_len a
      have sy := splitL_len b
      have tx := lx.length
      have ty := ly.length
      have tw := lw.length
      have n4 : (decide (rx.length * (24 + 1) ≤ 70368744177664) && decide (24 ≤ 1048576)) = true := by rw [decide_eq_true (by omega)]; rfl
      have n5 : (decide ((rx.length + ry.length) * (24 + 1) ≤ 70368744177664) && decide (24 ≤ 1048576)) = true := by rw [decide_eq_true (by omega)]; rfl
      have d1 : decide ((a.length : Int) = 0) = false := decide_eq_false (by omega)
      have d2 : decide ((b.length : Int) = 0) = false := decide_eq_false (by omega)
      have d3 : decide ((rw1.length : Int) = ((rx ++ ry).length : Int)) = true := decide_eq_true (by rw [List.length_append] at tw ⊢; omega)
      rw [d1, cf, d2, cf, needC_true n1, needC_true n2, needC_true n3, ex, callK_some, asT_t, asL_list, endB_nil, ey, callK_some, asT_t, asL_list, endB_nil, ew, callK_some, asT_t, asL_list, endB_nil, needC_true n4, needC_true n5, d3, bNT, cf]
      have e : (0 : Int) = ((0 : Nat) : Int) := rfl
      rw [e]
      have hpl : ∀ (l : List T), l.length ≤ 5000 → ∀ p ∈ splitL l, p.length ≤ 100000 := by
        intro l
        induction l with
        | nil => intro _ p hp; simp [splitL] at hp; subst hp; simp
        | cons x l ih =>
          intro hl p hp
          have hlen : ∀ (l : List T), ∀ p ∈ splitL l, p.length ≤ l.length := by
            intro l
            induction l with
            | nil => intro p hp; simp [splitL] at hp; subst hp; simp
            | cons x l ih =>
              intro p hp
              rw [splitL_cons] at hp
              cases hy : isLn x <;> rw [hy] at hp <;> simp only [cond_true, cond_false] at hp
              · cases hs : splitL l with
                | nil => exact absurd hs (splitL_ne l)
                | cons h t =>
                  rw [hs] at hp ih
                  dsimp only at hp
                  rcases List.mem_cons.1 hp with rfl | hp
                  · have := ih h (by simp); simp; omega
                  · have := ih p (List.mem_cons_of_mem _ hp); simp; omega
              · rcases List.mem_cons.1 hp with rfl | hp
                · simp
                · have := ih p hp; simp; omega
          have := hlen (x :: l) p hp
          omega
      refine L8_12_spec true zw rw1 _ _ _ lw lz (fun p hp => ?_) (by rw [List.length_append]; omega) _ 0 (Nat.add_zero _)
      rcases List.mem_append.1 hp with h | h
      · exact ⟨fun x hx => ⟨ha x (splitL_mem a p h x hx).1, (splitL_mem a p h x hx).2⟩, hpl a ka p h⟩
      · exact ⟨fun x hx => ⟨hb x (splitL_mem b p h x hx).1, (splitL_mem b p h x hx).2⟩, hpl b kb p h⟩
end Go.Proofs.Ytemdhiejbncafaa.VM
end
