/- Specs of functions of perm: plain orders, lists turned, inverses. Conditions: none. -/
import Derived.Test.YtcdeeppiljcddaaSp1
namespace Go.Proofs.Ytcdeeppiljcddaa.AM
open Go
section
variable {h h0 : Hp}

/-- A call that gives a list of its own, and an error's number. -/
def Gives (o : Option (Value × Hp)) (h : Hp) (l : List Int) (e : Int) : Prop :=
  ∃ h' a n c, o = some (.tuple #[.slice a n c, .int .i64 e], h') ∧ Keeps h h' ∧ Mine h' h.next a n c (intCells l)
theorem Gives.fail (hok : HpOk h) (e : Int) : Gives (some (.tuple #[.slice none 0 0, .int .i64 e], h)) h [] e :=
  ⟨h, none, 0, 0, rfl, Keeps.refl hok, Mine.nil _ _⟩
/-- What follows a call that gives a list. -/
theorem runC_gives {R : Type} {o : Option (Value × Hp)} {l : List Int} {e : Int} (hg : Gives o h l e) : ∃ h' a n c, Keeps h h' ∧ Mine h' h.next a n c (intCells l) ∧
    ∀ (K : Option Addr → Nat → Nat → Int → Hp → Option R), (runC o fun v h2 => tupC v fun l3 => consC l3 fun v4 l5 => asSliceC v4 fun a n c => consC l5 fun v9 l10 => asIntC .i64 v9 fun x => endC l10 (K a n c x h2)) = K a n c e h' := by
  obtain ⟨h', a, n, c, h1, h2, h3⟩ := hg
  refine ⟨h', a, n, c, h2, h3, fun K => ?_⟩
  rw [h1, runC_some]
  show tupC (.tuple (List.toArray [Value.slice a n c, Value.int .i64 e])) _ = _
  rw [tupC_mk, consC_cons, asSl_mk, consC_cons, asInt_mk, endC_nil]

theorem take_set_succ {α : Type} {cs : List α} {k : Nat} {v : α} (hk : k < cs.length) : (cs.set k v).take (k + 1) = cs.take k ++ [v] := by
  rw [List.take_succ_eq_append_getElem (by simpa using hk), List.take_set_of_le (Nat.le_refl k)]
  simp
theorem upto_succ (n : Nat) : upto (n + 1) = upto n ++ [(n : Int)] := by simp [upto, List.range_succ]
theorem intCells_append (l m : List Int) : intCells (l ++ m) = intCells l ++ intCells m := by simp [intCells]
theorem intCells_length (l : List Int) : (intCells l).length = l.length := by simp [intCells]
theorem intCells_one (x : Int) : intCells [x] = [.int .i64 x] := rfl

/-! ### Plain -/
def plainL (n : Int) : List Int := if 0 ≤ n ∧ n ≤ 12 then upto n.toNat else []
def plainE (n : Int) : Int := if 0 ≤ n ∧ n ≤ 12 then 0 else 1
theorem plain_loop {lo : Nat} (hlo : h0.next ≤ lo) {a : Option Addr} {n c : Nat} (hn : n ≤ 12) :
    ∀ (j k : Nat) (h : Hp) (cs : List Value), j + k = n → Mine h lo a n c cs → cs.take k = intCells (upto k) → Keeps h0 h →
      ∃ h', L17_5 a n c (n : Int) (k : Int) h = some (.tuple #[.slice a n c, .int .i64 0], h') ∧ Keeps h0 h' ∧ Mine h' lo a n c (intCells (upto n)) := by
  intro j
  induction j with
  | zero =>
    intro k h cs hk hm ht hkp
    have hl := hm.len
    rw [List.take_of_length_le (by omega)] at ht
    have : k = n := by omega
    subst this
    refine ⟨h, ?_, hkp, ht ▸ hm⟩
    rw [L17_5_eq, decide_eq_false (by omega), cond_false]
  | succ j ih =>
    intro k h cs hk hm ht hkp
    have hl := hm.len
    have hkc : k < cs.length := by omega
    obtain ⟨h', s1, s2, s3, _⟩ := hm.st hkc (v := .int .i64 k) rfl
    rw [L17_5_eq, decide_eq_true (by omega), cond_true, hm.at hkc, s1, wrap_nat (by omega)]
    refine ih (k + 1) h' _ (by omega) s2 ?_ (s3 _ hkp hlo)
    rw [take_set_succ hkc, ht, upto_succ, intCells_append]
    rfl
theorem plain_spec (hok : HpOk h) (n : Int) : Gives (run 17 [.int .i64 n] h) h (plainL n) (plainE n) := by
  rw [eq17]
  unfold plainL plainE
  by_cases h1 : n < 0
  · rw [decide_eq_true h1, cond_true, if_neg (by omega), if_neg (by omega)]; exact Gives.fail hok 1
  · rw [decide_eq_false h1, cond_false]
    by_cases h2 : 12 < n
    · rw [decide_eq_true h2, cond_true, if_neg (by omega), if_neg (by omega)]; exact Gives.fail hok 1
    · rw [decide_eq_false h2, cond_false, if_pos (by omega), if_pos (by omega)]
      obtain ⟨m, rfl⟩ : ∃ m : Nat, n = m := ⟨n.toNat, by omega⟩
      obtain ⟨h', e1, e2, e3⟩ := mk_mine (h := h) (z := .int .i64 0) rfl (bytes := 8) (n := m) (by omega)
      rw [e1]
      obtain ⟨h2, f1, f2, f3⟩ := plain_loop (h0 := h) (Nat.le_refl _) (by omega) m 0 h' _ (by omega) e2 (by simp [upto, intCells]) (e3 h (Keeps.refl hok))
      exact ⟨h2, _, _, _, f1, f2, by rw [Int.toNat_natCast]; exact f3⟩

/-! ### Lists in an order -/
def atL (l : List Int) (x : Int) : Int := l.getD x.toNat 0
theorem of_spec {a : Option Addr} {n c : Nat} {l : List Int} (hl : Ints h a n c l) {x : Int} (h0 : 0 ≤ x) (h1 : x < l.length) : run 44 [.slice a n c, .int .i64 x] h = some (.int .i64 (atL l x), h) := by
  rw [eq44]
  obtain ⟨m, rfl⟩ : ∃ m : Nat, x = m := ⟨x.toNat, by omega⟩
  rw [hl.get (i := m) (by omega)]
  have : m < l.length := by omega
  simp [atL, this]
/-- l's numbers at the places that p has. -/
def pickL (p l : List Int) : List Int := p.map (atL l)
theorem each_loop {lo : Nat} (hlo : h0.next = lo) {a b : Option Addr} {n m c d : Nat} {p l : List Int} (hok : HpOk h0) (hp : Ints h0 a n c p) (hl : Ints h0 b m d l) (hr : ∀ x ∈ p, 0 ≤ x ∧ x < l.length) (hn : n ≤ 1000000) :
    ∀ (j k : Nat) (h : Hp) (oa : Option Addr) (oc : Nat), j + k = n → Mine h lo oa k oc (intCells (pickL (p.take k) l)) → Keeps h0 h →
      ∃ h' a2 c2, L43_3 b m d oa k oc a n c (n : Int) (k : Int) h = some (.slice a2 n c2, h') ∧ Keeps h0 h' ∧ Mine h' lo a2 n c2 (intCells (pickL p l)) := by
  have hpn := hp.len
  intro j
  induction j with
  | zero =>
    intro k h oa oc hk hm hkp
    have : k = n := by omega
    subst this
    rw [List.take_of_length_le (by omega)] at hm
    refine ⟨h, oa, oc, ?_, hkp, hm⟩
    rw [L43_3_eq, decide_eq_false (by omega), cond_false]
  | succ j ih =>
    intro k h oa oc hk hm hkp
    have hpk : k < p.length := by omega
    have hx := hr _ (List.getElem_mem hpk)
    rw [L43_3_eq, decide_eq_true (by omega), cond_true, (hp.keeps hok hkp).get hpk, of_spec (hl.keeps hok hkp) hx.1 hx.2, runC_some, asInt_mk]
    obtain ⟨h', r', e1, e2, e3, _⟩ := append1 hkp.ok (by have := hkp.next; omega) hm (bytes := 8) (v := .int .i64 (atL l p[k])) rfl (by omega) (by omega)
    rw [e1, wrap_nat (by omega)]
    refine ih (k + 1) h' _ _ (by omega) ?_ (e3 _ hkp (by omega))
    rw [List.take_succ_eq_append_getElem hpk, pickL, List.map_append, intCells_append]
    exact e2
theorem turned_spec (hok : HpOk h) {a b : Option Addr} {n m c d : Nat} {p l : List Int} (hp : Ints h a n c p) (hl : Ints h b m d l) (hr : ∀ x ∈ p, 0 ≤ x ∧ x < l.length) (hn : n ≤ 1000000) :
    ∃ h' oa on oc, run 37 [.slice a n c, .slice b m d] h = some (.slice oa on oc, h') ∧ Keeps h h' ∧ Mine h' h.next oa on oc (intCells (pickL p l)) := by
  obtain ⟨h', oa, oc, e1, e2, e3⟩ := each_loop rfl hok hp hl hr hn n 0 h none 0 (by omega) (by simp [pickL, intCells]; exact Mine.nil _ _) (Keeps.refl hok)
  refine ⟨h', oa, n, oc, ?_, e2, e3⟩
  rw [eq37, eq43]
  have e1' : L43_3 b m d none 0 0 a n c (n : Int) 0 h = some (.slice oa n oc, h') := e1
  rw [e1', runC_some, asSl_mk]

/-! ### checked, After, Turn -/
def turnL (l p : List Int) : List Int := if isOrd p = true ∧ p.length = l.length then pickL p l else []
def turnE (l p : List Int) : Int := if isOrd p = true then if p.length = l.length then 0 else 4 else 1
theorem checked_spec (hok : HpOk h) {a b : Option Addr} {n m c d : Nat} {p l : List Int} (hp : Ints h a n c p) (hl : Ints h b m d l) :
    Gives (run 36 [.slice a n c, .slice b m d, .func (.func 37) #[] #[]] h) h (turnL l p) (turnE l p) := by
  have h1 := hp.len
  have h2 := hl.len
  rw [eq36, check_spec hp, runC_some, asInt_mk]
  unfold turnL turnE
  cases ho : isOrd p with
  | false =>
    simp only [Bool.false_eq_true, false_and, if_false]
    rw [decide_eq_false (by omega), Bool.not_false, cond_true]
    exact Gives.fail hok 1
  | true =>
    obtain ⟨o1, o2⟩ := isOrd_iff.1 ho
    simp only [true_and, if_true]
    simp only [decide_true, Bool.not_true, cond_false]
    by_cases he : p.length = l.length
    · rw [if_pos he, if_pos he, decide_eq_true (by omega), Bool.not_true, cond_false]
      obtain ⟨h', oa, on, oc, e1, e2, e3⟩ := turned_spec hok hp hl (fun x hx => by have := ord_range o2 x hx; omega) (by omega)
      rw [e1, runC_some, asSl_mk]
      exact ⟨h', oa, on, oc, rfl, e2, e3⟩
    · rw [if_neg he, if_neg he, decide_eq_false (by omega), Bool.not_false, cond_true]
      exact Gives.fail hok 4
theorem turn_spec (hok : HpOk h) {a b : Option Addr} {n m c d : Nat} {p l : List Int} (hl : Ints h b m d l) (hp : Ints h a n c p) :
    Gives (run 23 [.slice b m d, .slice a n c] h) h (turnL l p) (turnE l p) := by
  rw [eq23]
  obtain ⟨h', oa, on, oc, e1, e2, e3⟩ := runC_gives (R := Value × Hp) (checked_spec hok hp hl)
  rw [e3 fun a n c x h => some (.tuple #[.slice a n c, .int .i64 x], h)]
  exact ⟨h', oa, on, oc, rfl, e1, e2⟩
/-- Two orders, one after the other. -/
def afterL (p q : List Int) : List Int := if isOrd p = true ∧ isOrd q = true ∧ q.length = p.length then pickL q p else []
def afterE (p q : List Int) : Int := if isOrd p = true then if isOrd q = true then if q.length = p.length then 0 else 4 else 1 else 1
theorem after_spec (hok : HpOk h) {a b : Option Addr} {n m c d : Nat} {p q : List Int} (hp : Ints h a n c p) (hq : Ints h b m d q) :
    Gives (run 16 [.slice a n c, .slice b m d] h) h (afterL p q) (afterE p q) := by
  rw [eq16, check_spec hp, runC_some, asInt_mk]
  unfold afterL afterE
  cases ho : isOrd p with
  | false =>
    simp only [Bool.false_eq_true, false_and, if_false]
    rw [decide_eq_false (by omega), Bool.not_false, cond_true]
    exact Gives.fail hok 1
  | true =>
    simp only [true_and, if_true]
    simp only [decide_true, Bool.not_true, cond_false]
    obtain ⟨h', oa, on, oc, e1, e2, e3⟩ := runC_gives (R := Value × Hp) (checked_spec hok hq hp)
    rw [e3 fun a n c x h => some (.tuple #[.slice a n c, .int .i64 x], h)]
    exact ⟨h', oa, on, oc, rfl, e1, e2⟩
end
end Go.Proofs.Ytcdeeppiljcddaa.AM
