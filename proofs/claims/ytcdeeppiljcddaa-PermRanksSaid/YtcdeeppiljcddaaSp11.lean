/- Specs of functions of perm: the next order. Conditions: none. -/
import Derived.Test.YtcdeeppiljcddaaSp10
namespace Go.Proofs.Ytcdeeppiljcddaa.AM
open Go
section
variable {h h0 : Hp}
def swapL (l : List Int) (a b : Nat) : List Int := (l.set a (atL l (b : Int))).set b (atL l (a : Int))
theorem swapL_length (l : List Int) (a b : Nat) : (swapL l a b).length = l.length := by simp [swapL]
def revRun (o : Nat) : Nat → Nat → Nat → List Int → List Int
  | 0, _, _, l => l
  | f + 1, i, e, l => if i + 1 < e then revRun o f (i + 1) (e - 1) (swapL l (o + i) (o + (e - 1))) else l
theorem revRun_length (o : Nat) : ∀ (f i e : Nat) (l : List Int), (revRun o f i e l).length = l.length
  | 0, _, _, _ => rfl
  | f + 1, i, e, l => by
    unfold revRun
    split
    · rw [revRun_length, swapL_length]
    · rfl
theorem cells_get {l : List Int} {i : Nat} (hi : i < l.length) : (intCells l)[i]? = some (.int .i64 (atL l (i : Int))) := by
  rw [atL_eq hi]; simp [intCells, hi]
theorem cells_set (l : List Int) (i : Nat) (x : Int) : (intCells l).set i (.int .i64 x) = intCells (l.set i x) := by simp [intCells, List.map_set]
theorem at_off {R : Type} {r o m i : Nat} (hi : i < m) (K : Addr → Option R) : atC (some ⟨r, o, none⟩) m 1 (i : Int) K = K ⟨r, o + i, none⟩ := by
  rw [atC_adr (by simp) (by omega) (by omega)]
  congr 1
  unfold adr Addr.add
  simp only [Option.getD_some, Int.toNat_natCast, Nat.mul_one]
  split
  · rename_i h; subst h; rfl
  · rfl
theorem mine_ldOff {R : Type} {lo r n c : Nat} {cs : List Value} (hm : Mine h lo (some ⟨r, 0, none⟩) n c cs) {i : Nat} {x : Int} (hi : cs[i]? = some (.int .i64 x)) (K : Int → Option R) : ldI h .i64 ⟨r, i, none⟩ K = K x := by
  have := hm.cellAt i
  rw [adr_mine] at this
  exact ldI_of (this.trans hi) K
/-- Two numbers that change places. -/
theorem Mine.swap {lo r n c : Nat} {l : List Int} (hm : Mine h lo (some ⟨r, 0, none⟩) n c (intCells l)) {a b : Nat} (ha : a < l.length) (hb : b < l.length) :
    ∃ h1 h2, (∀ (R : Type) (K : Hp → Option R), h.stC ⟨r, a, none⟩ [.int .i64 (atL l (b : Int))] K = K h1) ∧ (∀ (R : Type) (K : Hp → Option R), h1.stC ⟨r, b, none⟩ [.int .i64 (atL l (a : Int))] K = K h2) ∧
      Mine h2 lo (some ⟨r, 0, none⟩) n c (intCells (swapL l a b)) ∧ (∀ h0, Keeps h0 h → h0.next ≤ lo → Keeps h0 h2) := by
  obtain ⟨h1, s1, s2, s3, _⟩ := hm.sts (o := a) (vs := [.int .i64 (atL l (b : Int))]) (by rw [intCells_length]; simp; omega) rfl
  rw [splice_set (by rw [intCells_length]; exact ha), cells_set] at s2
  obtain ⟨h2, t1, t2, t3, _⟩ := s2.sts (o := b) (vs := [.int .i64 (atL l (a : Int))]) (by rw [intCells_length, List.length_set]; simp; omega) rfl
  rw [splice_set (by rw [intCells_length, List.length_set]; exact hb), cells_set] at t2
  exact ⟨h1, h2, s1, t1, t2, fun h0 hk hlo => t3 h0 (s3 h0 hk hlo) hlo⟩
theorem rev_loop {lo r n c o m d : Nat} (hlo : h0.next ≤ lo) (ho : o + m = n) (hn : n ≤ 1000000) :
    ∀ (f i e : Nat) (h : Hp) (l : List Int), e ≤ m → e ≤ i + f → Mine h lo (some ⟨r, 0, none⟩) n c (intCells l) → Keeps h0 h →
      ∃ h', L41_1 (some ⟨r, o, none⟩) m d (i : Int) ((e : Int) - 1) h = some (.tuple #[], h') ∧ Keeps h0 h' ∧ Mine h' lo (some ⟨r, 0, none⟩) n c (intCells (revRun o f i e l)) := by
  intro f
  induction f with
  | zero =>
    intro i e h l he hf hm hk
    exact ⟨h, by rw [L41_1_eq, decide_eq_false (by omega), cond_false], hk, hm⟩
  | succ f ih =>
    intro i e h l he hf hm hk
    have hl := hm.len
    rw [intCells_length] at hl
    unfold revRun
    by_cases h1 : i + 1 < e
    · rw [if_pos h1, L41_1_eq, decide_eq_true (by omega), cond_true]
      have e1 : (e : Int) - 1 = ((e - 1 : Nat) : Int) := by omega
      rw [e1, at_off (by omega), mine_ldOff hm (cells_get (by omega)), at_off (by omega), mine_ldOff hm (cells_get (by omega)), at_off (by omega)]
      obtain ⟨h2, h3, s1, s2, s3, s4⟩ := hm.swap (a := o + i) (b := o + (e - 1)) (by omega) (by omega)
      rw [s1, at_off (by omega), s2, wrap_nat (by omega), wrap_in (by omega) (by omega)]
      exact ih (i + 1) (e - 1) h3 _ (by omega) (by omega) s3 (s4 _ hk hlo)
    · rw [if_neg h1]
      exact ⟨h, by rw [L41_1_eq, decide_eq_false (by omega), cond_false], hk, hm⟩
def descI (l : List Int) : Nat → Option Nat
  | 0 => none
  | j + 1 => if atL l ((j + 1 : Nat) : Int) < atL l (j : Int) then descI l j else some j
def descK (l : List Int) (x : Int) : Nat → Nat
  | 0 => 0
  | k + 1 => if atL l ((k + 1 : Nat) : Int) < x then descK l x k else k + 1
def nextRun (p : List Int) : List Int × Bool :=
  match descI p (p.length - 1) with
  | none => (p, false)
  | some i => (revRun (i + 1) p.length 0 (p.length - (i + 1)) (swapL p i (descK p (atL p (i : Int)) (p.length - 1))), true)
theorem descI_lt {l : List Int} : ∀ {j i : Nat}, descI l j = some i → i < j
  | 0, i, h => by cases h
  | j + 1, i, h => by
    unfold descI at h
    split at h
    · have := descI_lt h; omega
    · cases h; omega
theorem descK_le {l : List Int} {x : Int} : ∀ (k : Nat), descK l x k ≤ k
  | 0 => Nat.le_refl _
  | k + 1 => by
    unfold descK
    split
    · have := descK_le (l := l) (x := x) k; omega
    · exact Nat.le_refl _
theorem desc_loop {lo r n c : Nat} {l : List Int} (hm : Mine h lo (some ⟨r, 0, none⟩) n c (intCells l)) (hn : n ≤ 1000) :
    ∀ (j : Nat), j + 1 ≤ n → L28_6 (some ⟨r, 0, none⟩) n c ((j : Int) - 1) h = match descI l j with
      | none => some (.tuple #[.slice (some ⟨r, 0, none⟩) n c, .bool false, .int .i64 0], h)
      | some i => L28_11 (some ⟨r, 0, none⟩) n c (i : Int) (IntKind.i64.wrap ((n : Int) - 1)) h := by
  have hl := hm.len
  rw [intCells_length] at hl
  intro j
  induction j with
  | zero =>
    intro hj
    rw [L28_6_eq, decide_eq_false (by omega), cond_false, decide_eq_true (by omega), cond_true]
    rfl
  | succ j ih =>
    intro hj
    have e1 : ((j + 1 : Nat) : Int) - 1 = (j : Int) := by omega
    rw [e1, L28_6_eq, decide_eq_true (by omega), cond_true, wrap_nat (by omega), at_off (by omega), mine_ldOff hm (cells_get (by omega)), at_off (by omega), mine_ldOff hm (cells_get (by omega))]
    unfold descI
    rw [Nat.zero_add, Nat.zero_add]
    by_cases h1 : atL l ((j + 1 : Nat) : Int) < atL l (j : Int)
    · rw [decide_eq_true h1, cond_true, wrap_in (by omega) (by omega), ih (by omega), if_pos h1]
    · rw [decide_eq_false h1, cond_false, decide_eq_false (by omega), cond_false, if_neg h1]
theorem desck_loop {lo r n c : Nat} {l : List Int} (hlo : h0.next ≤ lo) (hm : Mine h lo (some ⟨r, 0, none⟩) n c (intCells l)) (hk0 : Keeps h0 h) (hn : n ≤ 1000) {i : Nat} (hi : i < n) :
    ∀ (k : Nat), i ≤ k → k < n → ∃ h', L28_11 (some ⟨r, 0, none⟩) n c (i : Int) (k : Int) h = some (.tuple #[.slice (some ⟨r, 0, none⟩) n c, .bool true, .int .i64 0], h') ∧ Keeps h0 h' ∧
      Mine h' lo (some ⟨r, 0, none⟩) n c (intCells (revRun (i + 1) n 0 (n - (i + 1)) (swapL l i (descK l (atL l (i : Int)) k)))) := by
  have hl := hm.len
  rw [intCells_length] at hl
  have fin : ∀ k : Nat, i ≤ k → k < n → ¬ (atL l (k : Int) < atL l (i : Int)) → ∃ h', L28_11 (some ⟨r, 0, none⟩) n c (i : Int) (k : Int) h = some (.tuple #[.slice (some ⟨r, 0, none⟩) n c, .bool true, .int .i64 0], h') ∧ Keeps h0 h' ∧
      Mine h' lo (some ⟨r, 0, none⟩) n c (intCells (revRun (i + 1) n 0 (n - (i + 1)) (swapL l i k))) := by
    intro k hik hk h1
    have a1 := fun (R : Type) (K : Addr → Option R) => at_off (R := R) (r := r) (o := 0) (m := n) (i := k) hk K
    have a2 := fun (R : Type) (K : Addr → Option R) => at_off (R := R) (r := r) (o := 0) (m := n) (i := i) hi K
    rw [Nat.zero_add] at a1 a2
    rw [L28_11_eq, a1, mine_ldOff hm (cells_get (by omega)), a2, mine_ldOff hm (cells_get (by omega)), decide_eq_false h1, cond_false, a1, mine_ldOff hm (cells_get (by omega)), a2, mine_ldOff hm (cells_get (by omega)), a2]
    obtain ⟨h2, h3, s1, s2, s3, s4⟩ := hm.swap (a := i) (b := k) (by omega) (by omega)
    have hk3 := s4 _ hk0 hlo
    rw [s1, a1, s2, wrap_nat (by omega), s3.cutEnd hk3.ok (by omega)]
    obtain ⟨h4, t1, t2, t3⟩ := rev_loop (o := i + 1) (m := n - (i + 1)) (d := 0) hlo (by omega) (by omega) n 0 (n - (i + 1)) h3 _ (Nat.le_refl _) (by omega) s3 hk3
    have e1 : IntKind.i64.wrap (((n - (i + 1) : Nat) : Int) - 1) = ((n - (i + 1) : Nat) : Int) - 1 := wrap_in (by omega) (by omega)
    have t1' : L41_1 (some ⟨r, i + 1, none⟩) (n - (i + 1)) 0 0 (((n - (i + 1) : Nat) : Int) - 1) h3 = _ := t1
    rw [eq41, e1, t1', runC_some]
    exact ⟨h4, rfl, t2, t3⟩
  intro k
  induction k with
  | zero =>
    intro hik hk
    exact fin 0 hik hk (by have : i = 0 := by omega
                           subst this; omega)
  | succ k ih =>
    intro hik hk
    unfold descK
    by_cases h1 : atL l ((k + 1 : Nat) : Int) < atL l (i : Int)
    · rw [if_pos h1]
      have hne : i ≠ k + 1 := fun he => by subst he; omega
      obtain ⟨h', e1, e2⟩ := ih (by omega) (by omega)
      have a1 := fun (R : Type) (K : Addr → Option R) => at_off (R := R) (r := r) (o := 0) (m := n) (i := k + 1) hk K
      have a2 := fun (R : Type) (K : Addr → Option R) => at_off (R := R) (r := r) (o := 0) (m := n) (i := i) hi K
      rw [Nat.zero_add] at a1 a2
      refine ⟨h', ?_, e2⟩
      have e3 : ((k + 1 : Nat) : Int) - 1 = (k : Int) := by omega
      rw [L28_11_eq, a1, mine_ldOff hm (cells_get (by omega)), a2, mine_ldOff hm (cells_get (by omega)), decide_eq_true h1, cond_true, e3, wrap_cast (by omega)]
      exact e1
    · rw [if_neg h1]
      exact fin (k + 1) hik hk h1
/-- A call that gives a list of its own, whether there is one, and an error's number. -/
def GivesN (o : Option (Value × Hp)) (h : Hp) (l : List Int) (b : Bool) (e : Int) : Prop :=
  ∃ h' a n c, o = some (.tuple #[.slice a n c, .bool b, .int .i64 e], h') ∧ Keeps h h' ∧ Mine h' h.next a n c (intCells l)
theorem runC_givesN {R : Type} {o : Option (Value × Hp)} {l : List Int} {b : Bool} {e : Int} (hg : GivesN o h l b e) : ∃ h' a n c, Keeps h h' ∧ Mine h' h.next a n c (intCells l) ∧
    ∀ (K : Option Addr → Nat → Nat → Bool → Int → Hp → Option R), (runC o fun v h2 => tupC v fun l3 => consC l3 fun v4 l5 => asSliceC v4 fun a n c => consC l5 fun v6 l7 => asBoolC v6 fun b => consC l7 fun v9 l10 => asIntC .i64 v9 fun x => endC l10 (K a n c b x h2)) = K a n c b e h' := by
  obtain ⟨h', a, n, c, h1, h2, h3⟩ := hg
  refine ⟨h', a, n, c, h2, h3, fun K => ?_⟩
  rw [h1, runC_some]
  show tupC (.tuple (List.toArray [Value.slice a n c, Value.bool b, Value.int .i64 e])) _ = _
  rw [tupC_mk, consC_cons, asSl_mk, consC_cons, asBool_mk, consC_cons, asInt_mk, endC_nil]
def nextL (p : List Int) : List Int := if isOrd p = true then (nextRun p).1 else []
def nextB (p : List Int) : Bool := if isOrd p = true then (nextRun p).2 else false
theorem next_spec (hok : HpOk h) {a : Option Addr} {n c : Nat} {p : List Int} (hp : Ints h a n c p) : GivesN (run 28 [.slice a n c] h) h (nextL p) (nextB p) (ordE p) := by
  have hpn := hp.len
  rw [eq28, check_spec hp, runC_some, asInt_mk]
  unfold nextL nextB ordE
  cases ho : isOrd p with
  | false =>
    simp only [Bool.false_eq_true, if_false]
    rw [decide_eq_false (by omega), Bool.not_false, cond_true]
    exact ⟨h, none, 0, 0, rfl, Keeps.refl hok, Mine.nil _ _⟩
  | true =>
    simp only [if_true, decide_true, Bool.not_true, cond_false]
    have hle := ord_le ho
    obtain ⟨h1, a2, c2, e1, e2, e3⟩ := clone_spec hok hp (by omega)
    rw [e1, runC_some, asSl_mk, wrap_in (by omega) (by omega)]
    by_cases hn0 : n = 0
    · have : p = [] := List.length_eq_zero_iff.1 (by omega)
      subst this
      subst hn0
      refine ⟨h1, a2, 0, c2, ?_, e2, e3⟩
      rw [L28_6_eq]
      rfl
    · rcases e3 with ⟨g1, g2, g3, g4⟩ | ⟨r, g1, g2⟩
      · omega
      · have hm : Mine h1 h.next (some ⟨r, 0, none⟩) n c2 (intCells p) := .inr ⟨r, rfl, g2⟩
        subst g1
        have e4 : (n : Int) - 2 = ((n - 1 : Nat) : Int) - 1 := by omega
        rw [e4, desc_loop hm (by omega) (n - 1) (by omega)]
        unfold nextRun
        rw [← hpn]
        cases hd : descI p (n - 1) with
        | none => exact ⟨h1, _, n, c2, rfl, e2, hm⟩
        | some i =>
          have hi := descI_lt hd
          simp only
          have e5 : IntKind.i64.wrap ((n : Int) - 1) = ((n - 1 : Nat) : Int) := by rw [wrap_in (by omega) (by omega)]; omega
          rw [e5]
          obtain ⟨h2, f1, f2, f3⟩ := desck_loop (h0 := h) (Nat.le_refl _) hm e2 (by omega) (i := i) (by omega) (n - 1) (by omega) (by omega)
          exact ⟨h2, _, n, c2, f1, f2, f3⟩
end
end Go.Proofs.Ytcdeeppiljcddaa.AM
