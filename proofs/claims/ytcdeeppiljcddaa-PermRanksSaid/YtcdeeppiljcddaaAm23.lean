/- AM, the twenty-third part: what a heap holds, told by lists. Conditions: none. -/
import Derived.Test.YtcdeeppiljcddaaAm22
import Derived.IntWalk
namespace Go.Proofs.Ytcdeeppiljcddaa.AM
open Go
section
variable {R α : Type} {h h' h0 : Hp}

structure HpOk (h : Hp) : Prop where
  new : ∀ r b, h.new r = some b → h.base ≤ r ∧ r < h.next
  maps : ∀ r es, h.maps r = some es → h.base ≤ r ∧ r < h.next
  old : ∀ a v, h.old a = some v → a.block < h.base
  next : h.base ≤ h.next
/-- From one heap to a later one: what was there is as it was. -/
structure Keeps (h h' : Hp) : Prop where
  base : h'.base = h.base
  old : h'.old = h.old
  next : h.next ≤ h'.next
  new : ∀ r, r < h.next → h'.new r = h.new r
  maps : ∀ r, r < h.next → h'.maps r = h.maps r
  low : min h.low h.next ≤ h'.low
  ok : HpOk h'
theorem Keeps.refl (hok : HpOk h) : Keeps h h := ⟨rfl, rfl, Nat.le_refl _, fun _ _ => rfl, fun _ _ => rfl, Nat.min_le_left _ _, hok⟩
theorem Keeps.trans {a b c : Hp} (x : Keeps a b) (y : Keeps b c) : Keeps a c :=
  ⟨y.base.trans x.base, y.old.trans x.old, Nat.le_trans x.next y.next,
   fun r hr => (y.new r (Nat.lt_of_lt_of_le hr x.next)).trans (x.new r hr), fun r hr => (y.maps r (Nat.lt_of_lt_of_le hr x.next)).trans (x.maps r hr),
   by have := x.low; have := y.low; have := x.next; omega, y.ok⟩
theorem Keeps.cell (hok : HpOk h) (hk : Keeps h h') {a : Addr} {v : Value} (hv : h.cell a = some v) : h'.cell a = some v := by
  unfold Hp.cell at hv ⊢
  have hb := hk.base
  cases hn : h.new a.block with
  | some b =>
    rw [hn] at hv
    rw [hk.new _ (hok.new _ _ hn).2, hn]
    exact hv
  | none =>
    rw [hn] at hv
    have hlt := hok.old _ _ hv
    rw [hk.new _ (Nat.lt_of_lt_of_le hlt hok.next), hn, hk.old]
    exact hv

/-! ### Slices that are read. -/
def SlOk (h : Hp) (sz : Nat) (a : Option Addr) (n c : Nat) : Prop :=
  match a with
  | none => n = 0 ∧ c = 0
  | some ad => (ad.block < h.base ∧ n ≤ c) ∨ (h.base ≤ ad.block ∧ ad.spot = none ∧ ∃ b, h.new ad.block = some b ∧ b.sz = sz)
/-- A slice whose elements are of one cell. -/
structure Sl (E : Hp → Value → α → Prop) (h : Hp) (a : Option Addr) (n c : Nat) (l : List α) : Prop where
  len : n = l.length
  ok : SlOk h 1 a n c
  el : ∀ i (hi : i < l.length), ∃ ad v, a = some ad ∧ h.cell (ad.add i) = some v ∧ E h v l[i]
def IntE (k : IntKind) (_ : Hp) (v : Value) (x : Int) : Prop := v = .int k x
def BoolE (_ : Hp) (v : Value) (x : Bool) : Prop := v = .bool x
def StrE (_ : Hp) (v : Value) (x : ByteArray) : Prop := v = .string x
def SlE (E : Hp → Value → α → Prop) (h : Hp) (v : Value) (l : List α) : Prop := ∃ a n c, v = .slice a n c ∧ Sl E h a n c l
abbrev Ints (h : Hp) (a : Option Addr) (n c : Nat) (l : List Int) : Prop := Sl (IntE .i64) h a n c l
abbrev Lists (h : Hp) (a : Option Addr) (n c : Nat) (l : List (List Int)) : Prop := Sl (SlE (IntE .i64)) h a n c l
def Stays (E : Hp → Value → α → Prop) : Prop := ∀ h h' v x, HpOk h → Keeps h h' → E h v x → E h' v x
theorem stays_int (k : IntKind) : Stays (IntE k) := fun _ _ _ _ _ _ h => h
theorem stays_bool : Stays BoolE := fun _ _ _ _ _ _ h => h
theorem stays_str : Stays StrE := fun _ _ _ _ _ _ h => h
theorem SlOk.keeps {sz : Nat} {a : Option Addr} {n c : Nat} (hok : HpOk h) (hk : Keeps h h') (hs : SlOk h sz a n c) : SlOk h' sz a n c := by
  cases a with
  | none => exact hs
  | some ad =>
    rcases hs with ⟨h1, h2⟩ | ⟨h1, h2, b, h3, h4⟩
    · exact .inl ⟨hk.base ▸ h1, h2⟩
    · exact .inr ⟨hk.base ▸ h1, h2, b, (hk.new _ (hok.new _ _ h3).2).trans h3, h4⟩
theorem Sl.keeps {E : Hp → Value → α → Prop} (hE : Stays E) (hok : HpOk h) (hk : Keeps h h') {a : Option Addr} {n c : Nat} {l : List α} (hs : Sl E h a n c l) : Sl E h' a n c l :=
  ⟨hs.len, hs.ok.keeps hok hk, fun i hi => by
    obtain ⟨ad, v, h1, h2, h3⟩ := hs.el i hi
    exact ⟨ad, v, h1, hk.cell hok h2, hE _ _ _ _ hok hk h3⟩⟩
theorem stays_sl {E : Hp → Value → α → Prop} (hE : Stays E) : Stays (SlE E) := fun _ _ _ _ hok hk ⟨a, n, c, h1, h2⟩ => ⟨a, n, c, h1, h2.keeps hE hok hk⟩
theorem Ints.keeps (hok : HpOk h) (hk : Keeps h h') {a : Option Addr} {n c : Nat} {l : List Int} (hs : Ints h a n c l) : Ints h' a n c l := Sl.keeps (stays_int _) hok hk hs

/-- The place of element i. -/
def adr (a : Option Addr) (i : Int) : Addr := (a.getD ⟨0, 0, none⟩).add (i.toNat * 1)
theorem atC_adr {a : Option Addr} {n : Nat} {i : Int} (ha : a ≠ none) (h0 : 0 ≤ i) (h1 : i < n) (K : Addr → Option R) : atC a n 1 i K = K (adr a i) := by
  unfold atC needC
  simp only [decide_eq_true h0, decide_eq_true h1, Bool.and_self, cond_true]
  cases a with
  | none => exact absurd rfl ha
  | some ad => rfl
theorem Sl.at {E : Hp → Value → α → Prop} {a : Option Addr} {n c : Nat} {l : List α} (hs : Sl E h a n c l) {i : Nat} (hi : i < l.length) (K : Addr → Option R) : atC a n 1 (i : Int) K = K (adr a i) := by
  refine atC_adr ?_ (by omega) (by rw [hs.len]; omega) K
  obtain ⟨ad, v, h1, _⟩ := hs.el i hi
  rw [h1]; simp
theorem Sl.cell {E : Hp → Value → α → Prop} {a : Option Addr} {n c : Nat} {l : List α} (hs : Sl E h a n c l) {i : Nat} (hi : i < l.length) : ∃ v, h.cell (adr a i) = some v ∧ E h v l[i] := by
  obtain ⟨ad, v, h1, h2, h3⟩ := hs.el i hi
  refine ⟨v, ?_, h3⟩
  rw [h1]
  simpa [adr] using h2
theorem ldI_of {k : IntKind} {a : Addr} {x : Int} (hc : h.cell a = some (.int k x)) (K : Int → Option R) : ldI h k a K = K x := by
  unfold ldI asIntC; rw [hc]; simp
theorem ldB_of {a : Addr} {x : Bool} (hc : h.cell a = some (.bool x)) (K : Bool → Option R) : ldB h a K = K x := by
  unfold ldB asBoolC; rw [hc]
theorem ldS_of {a : Addr} {x : ByteArray} (hc : h.cell a = some (.string x)) (K : ByteArray → Option R) : ldS h a K = K x := by
  unfold ldS asStrC; rw [hc]
theorem ldSl_of {a : Addr} {b : Option Addr} {n c : Nat} (hc : h.cell a = some (.slice b n c)) (K : Option Addr → Nat → Nat → Option R) : ldSl h a K = K b n c := by
  unfold ldSl asSliceC; rw [hc]
theorem Ints.ld {a : Option Addr} {n c : Nat} {l : List Int} (hs : Ints h a n c l) {i : Nat} (hi : i < l.length) (K : Int → Option R) : ldI h .i64 (adr a i) K = K l[i] := by
  obtain ⟨v, h1, h2⟩ := hs.cell hi
  rw [h2] at h1
  exact ldI_of h1 K
/-- Element i, read. -/
theorem Ints.get {a : Option Addr} {n c : Nat} {l : List Int} (hs : Ints h a n c l) {i : Nat} (hi : i < l.length) (K : Int → Option R) : (atC a n 1 (i : Int) fun d => ldI h .i64 d K) = K l[i] := by
  rw [hs.at hi, hs.ld hi]
theorem Sl.nil (E : Hp → Value → α → Prop) (h : Hp) : Sl E h none 0 0 [] := ⟨rfl, ⟨rfl, rfl⟩, fun i hi => by cases hi⟩
theorem Sl.none_nil {E : Hp → Value → α → Prop} {a : Option Addr} {n c : Nat} {l : List α} (hs : Sl E h a n c l) (ha : a = none) : l = [] := by
  subst ha
  obtain ⟨h1, _⟩ := hs.ok
  have := hs.len
  cases l with
  | nil => rfl
  | cons x l => simp at this; omega

theorem wrap_in {x : Int} (h1 : -9223372036854775808 ≤ x) (h2 : x ≤ 9223372036854775807) : IntKind.i64.wrap x = x := IntWalk.i64_in x ⟨h1, h2⟩
theorem wrap_nat {k : Nat} (hk : k < 9223372036854775807) : IntKind.i64.wrap ((k : Int) + 1) = ((k + 1 : Nat) : Int) := by
  rw [wrap_in (by omega) (by omega)]; simp

/-! ### Slices of the call's own. -/
structure Mine1 (h : Hp) (lo : Nat) (r : Nat) (n : Nat) (cs : List Value) : Prop where
  ge : lo ≤ r
  len : n = cs.length
  one : oneCells cs = true
  blk : ∃ b, h.new r = some b ∧ b.rw = true ∧ b.sz = 1 ∧ b.cells = cs ∧ ∀ q ∈ b.par, lo ≤ q ∧ q < r
def Mine (h : Hp) (lo : Nat) (a : Option Addr) (n c : Nat) (cs : List Value) : Prop :=
  (a = none ∧ n = 0 ∧ c = 0 ∧ cs = []) ∨ ∃ r, a = some ⟨r, 0, none⟩ ∧ Mine1 h lo r n cs
theorem Mine.nil (h : Hp) (lo : Nat) : Mine h lo none 0 0 [] := .inl ⟨rfl, rfl, rfl, rfl⟩
theorem Mine.len {lo : Nat} {a : Option Addr} {n c : Nat} {cs : List Value} (hm : Mine h lo a n c cs) : n = cs.length := by
  rcases hm with ⟨_, h1, _, h2⟩ | ⟨r, _, h1⟩
  · rw [h1, h2]; rfl
  · exact h1.len
theorem Mine1.cell {lo r n : Nat} {cs : List Value} (hm : Mine1 h lo r n cs) (i : Nat) : h.cell ⟨r, i, none⟩ = cs[i]? := by
  obtain ⟨b, h1, h2, h3, h4, h5⟩ := hm.blk
  unfold Hp.cell
  simp only [h1, Option.isNone_none, cond_true, h4]
theorem Mine.sl {E : Hp → Value → α → Prop} {lo : Nat} {a : Option Addr} {n c : Nat} {cs : List Value} {l : List α} (hok : HpOk h) (hm : Mine h lo a n c cs) (hl : l.length = cs.length) (hE : ∀ i (hi : i < l.length), E h (cs[i]'(hl ▸ hi)) l[i]) : Sl E h a n c l := by
  refine ⟨hm.len.trans hl.symm, ?_, fun i hi => ?_⟩
  · rcases hm with ⟨rfl, h1, h2, _⟩ | ⟨r, rfl, h1⟩
    · exact ⟨h1, h2⟩
    · obtain ⟨b, g1, g2, g3, g4, g5⟩ := h1.blk
      exact .inr ⟨(hok.new _ _ g1).1, rfl, b, g1, g3⟩
  · rcases hm with ⟨rfl, h1, h2, rfl⟩ | ⟨r, rfl, h1⟩
    · rw [hl] at hi; cases hi
    · refine ⟨_, cs[i]'(hl ▸ hi), rfl, ?_, hE i hi⟩
      have : (Addr.mk r 0 none).add i = ⟨r, i, none⟩ := by
        unfold Addr.add
        split
        · subst i; rfl
        · simp
      rw [this, h1.cell]
      simp [hl ▸ hi]
def intCells (l : List Int) : List Value := l.map (.int .i64)
theorem one_intCells (l : List Int) : oneCells (intCells l) = true := by
  induction l with
  | nil => rfl
  | cons x l ih => simp [oneCells, intCells, okCell]
theorem Mine.ints {lo : Nat} {a : Option Addr} {n c : Nat} {l : List Int} (hok : HpOk h) (hm : Mine h lo a n c (intCells l)) : Ints h a n c l :=
  hm.sl hok (by simp [intCells]) fun i hi => by simp [IntE, intCells]
theorem Mine.keeps {lo : Nat} {a : Option Addr} {n c : Nat} {cs : List Value} (hok : HpOk h) (hk : Keeps h h') (hm : Mine h lo a n c cs) : Mine h' lo a n c cs := by
  rcases hm with h1 | ⟨r, h1, h2⟩
  · exact .inl h1
  · obtain ⟨b, g1, g⟩ := h2.blk
    exact .inr ⟨r, h1, h2.ge, h2.len, h2.one, b, (hk.new _ (hok.new _ _ g1).2).trans g1, g⟩
theorem Mine.down {lo lo' : Nat} {a : Option Addr} {n c : Nat} {cs : List Value} (hm : Mine h lo a n c cs) (hl : lo' ≤ lo) : Mine h lo' a n c cs := by
  rcases hm with h1 | ⟨r, h1, h2⟩
  · exact .inl h1
  · obtain ⟨b, g1, g2, g3, g4, g5⟩ := h2.blk
    exact .inr ⟨r, h1, Nat.le_trans hl h2.ge, h2.len, h2.one, b, g1, g2, g3, g4, fun q hq => ⟨Nat.le_trans hl (g5 q hq).1, (g5 q hq).2⟩⟩
/-- What is in the blocks from a number on is kept. -/
def Later (lo : Nat) (h h' : Hp) : Prop := ∀ r b, lo ≤ r → h.new r = some b → ∃ b', h'.new r = some b' ∧ b'.cells = b.cells ∧ b'.sz = b.sz
theorem Later.refl (lo : Nat) (h : Hp) : Later lo h h := fun _ b _ hb => ⟨b, hb, rfl, rfl⟩
theorem Later.trans {lo : Nat} {a b c : Hp} (x : Later lo a b) (y : Later lo b c) : Later lo a c := fun r b0 hr hb => by
  obtain ⟨b1, h1, h2, h3⟩ := x r b0 hr hb
  obtain ⟨b2, h4, h5, h6⟩ := y r b1 hr h1
  exact ⟨b2, h4, h5.trans h2, h6.trans h3⟩
/-- What a slice in the blocks from a number on holds. -/
def Above (h : Hp) (lo : Nat) (a : Option Addr) (n : Nat) (cs : List Value) : Prop :=
  n = cs.length ∧ ((a = none ∧ cs = []) ∨ ∃ r b, a = some ⟨r, 0, none⟩ ∧ lo ≤ r ∧ h.new r = some b ∧ b.cells = cs ∧ b.sz = 1)
theorem Above.later {lo : Nat} {a : Option Addr} {n : Nat} {cs : List Value} (hl : Later lo h h') (ha : Above h lo a n cs) : Above h' lo a n cs := by
  obtain ⟨h1, h2 | ⟨r, b, h2, h3, h4, h5, h6⟩⟩ := ha
  · exact ⟨h1, .inl h2⟩
  · obtain ⟨b', g1, g2, g3⟩ := hl r b h3 h4
    exact ⟨h1, .inr ⟨r, b', h2, h3, g1, g2.trans h5, g3.trans h6⟩⟩
theorem Mine.above {lo : Nat} {a : Option Addr} {n c : Nat} {cs : List Value} (hm : Mine h lo a n c cs) : Above h lo a n cs := by
  rcases hm with ⟨rfl, rfl, _, rfl⟩ | ⟨r, rfl, hm⟩
  · exact ⟨rfl, .inl ⟨rfl, rfl⟩⟩
  · obtain ⟨b, g1, g2, g3, g4, g5⟩ := hm.blk
    exact ⟨hm.len, .inr ⟨r, b, rfl, hm.ge, g1, g4, g3⟩⟩
theorem Above.sl {E : Hp → Value → α → Prop} {lo : Nat} {a : Option Addr} {n : Nat} {cs : List Value} {l : List α} (hok : HpOk h) (hm : Above h lo a n cs) (hl : l.length = cs.length) (hE : ∀ i (hi : i < l.length), E h (cs[i]'(hl ▸ hi)) l[i]) : Sl E h a n 0 l := by
  obtain ⟨hn, hm⟩ := hm
  refine ⟨hn.trans hl.symm, ?_, fun i hi => ?_⟩
  · rcases hm with ⟨rfl, rfl⟩ | ⟨r, b, rfl, h1, g1, g4, g3⟩
    · exact ⟨hn, rfl⟩
    · exact .inr ⟨(hok.new _ _ g1).1, rfl, b, g1, g3⟩
  · rcases hm with ⟨rfl, rfl⟩ | ⟨r, b, rfl, h1, g1, g4, g3⟩
    · rw [hl] at hi; cases hi
    · refine ⟨_, cs[i]'(hl ▸ hi), rfl, ?_, hE i hi⟩
      have : (Addr.mk r 0 none).add i = ⟨r, i, none⟩ := by
        unfold Addr.add
        split
        · subst i; rfl
        · simp
      rw [this]
      unfold Hp.cell
      simp [g1, g4, hl ▸ hi]
theorem Above.ints {lo : Nat} {a : Option Addr} {n : Nat} {l : List Int} (hok : HpOk h) (hm : Above h lo a n (intCells l)) : Ints h a n 0 l :=
  hm.sl hok (by simp [intCells]) fun i hi => by simp [IntE, intCells]
/-- Where a slice of the call's own lies. -/
theorem Mine.lt {lo r : Nat} {a : Option Addr} {n c : Nat} {cs : List Value} (hok : HpOk h) (hm : Mine h lo a n c cs) (ha : a = some ⟨r, 0, none⟩) : lo ≤ r ∧ r < h.next := by
  rcases hm with ⟨rfl, _⟩ | ⟨q, rfl, hm⟩
  · cases ha
  · cases ha
    obtain ⟨b, g1, _⟩ := hm.blk
    exact ⟨hm.ge, (hok.new _ _ g1).2⟩
theorem Mine.frame {lo : Nat} {a : Option Addr} {n c : Nat} {cs : List Value} (hm : Mine h lo a n c cs) (hf : ∀ q b, a = some ⟨q, 0, none⟩ → h.new q = some b → h'.new q = some b) : Mine h' lo a n c cs := by
  rcases hm with h1 | ⟨q, h1, hm⟩
  · exact .inl h1
  · obtain ⟨b, g1, g⟩ := hm.blk
    exact .inr ⟨q, h1, hm.ge, hm.len, hm.one, b, hf q b h1 g1, g⟩
end
end Go.Proofs.Ytcdeeppiljcddaa.AM
