/- AM, the sixth part: how values and heaps of the evaluator stand to those of the machine. Conditions: none. -/
import Derived.Test.YtcdeeppiljcddaaAm5
import Derived.Deep.AppendSrc
import Derived.Laws.CopyRow
import Derived.OwnWalk
import Derived.Laws.MakeOwn
namespace Go.Proofs.Ytcdeeppiljcddaa.AM
open Go Go.RowKit
set_option linter.unusedSectionVars false
set_option linter.unusedSimpArgs false

/-- Where a new block lies: the machine's block, where it begins in it, how many cells that block has, an element's cells. -/
structure Loc where
  block : Nat
  base : Nat
  top : Nat
  sz : Nat
abbrev Places := Nat → Option Loc

mutual
inductive VRel (B : Nat) (ρ : Places) : Value → Value → Prop
  | junk (v : Value) : VRel B ρ junk v
  | bool (b : Bool) : VRel B ρ (.bool b) (.bool b)
  | int (k : IntKind) (n : Int) : VRel B ρ (.int k n) (.int k n)
  | string (s : ByteArray) : VRel B ρ (.string s) (.string s)
  | ptrNil : VRel B ρ (.pointer none) (.pointer none)
  | ptrOld {a : Addr} (h : a.block < B) : VRel B ρ (.pointer (some a)) (.pointer (some a))
  | ptrNew {r o : Nat} {l : Loc} (hr : ρ r = some l) : VRel B ρ (.pointer (some ⟨r, o, none⟩)) (.pointer (some ⟨l.block, l.base + o, none⟩))
  | slNil : VRel B ρ (.slice none 0 0) (.slice none 0 0)
  | slOld {a : Addr} {n c : Nat} (h : a.block < B) : VRel B ρ (.slice (some a) n c) (.slice (some a) n c)
  | slNew {r o n c : Nat} {l : Loc} (hr : ρ r = some l) (hn : n ≤ c) (ht : l.base + o + c * l.sz ≤ l.top) : VRel B ρ (.slice (some ⟨r, o, none⟩) n 0) (.slice (some ⟨l.block, l.base + o, none⟩) n c)
  | slEmpty {r o : Nat} {b : Addr} {l : Loc} (hr : ρ r = some l) : VRel B ρ (.slice (some ⟨r, o, none⟩) 0 0) (.slice (some b) 0 0)
  | func (fn : Fn) {f g : Array Value} {c d : Array Value} (hf : VRels B ρ f.toList g.toList) (hc : VRels B ρ c.toList d.toList) : VRel B ρ (.func fn f c) (.func fn g d)
  | nilFunc : VRel B ρ .nilFunc .nilFunc
  | nilIface : VRel B ρ .nilIface .nilIface
  | mapNil : VRel B ρ (.map none) (.map none)
  | mapNew {r : Nat} {l : Loc} (hr : ρ r = some l) : VRel B ρ (.map (some r)) (.map (some l.block))
  | agg {c d : Array Value} (h : VRels B ρ c.toList d.toList) : VRel B ρ (.agg c) (.agg d)
  | tuple {c d : Array Value} (h : VRels B ρ c.toList d.toList) : VRel B ρ (.tuple c) (.tuple d)
inductive VRels (B : Nat) (ρ : Places) : List Value → List Value → Prop
  | nil : VRels B ρ [] []
  | cons {x y : Value} {xs ys : List Value} (h : VRel B ρ x y) (hs : VRels B ρ xs ys) : VRels B ρ (x :: xs) (y :: ys)
end

def LeP (ρ ρ' : Places) : Prop := ∀ r l, ρ r = some l → ρ' r = some l
theorem LeP.refl (ρ : Places) : LeP ρ ρ := fun _ _ h => h
theorem LeP.trans {a b c : Places} (h : LeP a b) (k : LeP b c) : LeP a c := fun r l hr => k r l (h r l hr)

section
variable {B : Nat} {ρ ρ' : Places}
mutual
theorem VRel.mono (hle : LeP ρ ρ') : ∀ {x y : Value}, VRel B ρ x y → VRel B ρ' x y
  | _, _, .junk v => .junk v
  | _, _, .bool b => .bool b
  | _, _, .int k n => .int k n
  | _, _, .string s => .string s
  | _, _, .ptrNil => .ptrNil
  | _, _, .ptrOld h => .ptrOld h
  | _, _, .ptrNew hr => .ptrNew (hle _ _ hr)
  | _, _, .slNil => .slNil
  | _, _, .slOld h => .slOld h
  | _, _, .slNew hr hn ht => .slNew (hle _ _ hr) hn ht
  | _, _, .slEmpty hr => .slEmpty (hle _ _ hr)
  | _, _, .func fn hf hc => .func fn (VRels.mono hle hf) (VRels.mono hle hc)
  | _, _, .nilFunc => .nilFunc
  | _, _, .nilIface => .nilIface
  | _, _, .mapNil => .mapNil
  | _, _, .mapNew hr => .mapNew (hle _ _ hr)
  | _, _, .agg h => .agg (VRels.mono hle h)
  | _, _, .tuple h => .tuple (VRels.mono hle h)
theorem VRels.mono (hle : LeP ρ ρ') : ∀ {xs ys : List Value}, VRels B ρ xs ys → VRels B ρ' xs ys
  | _, _, .nil => .nil
  | _, _, .cons h hs => .cons (VRel.mono hle h) (VRels.mono hle hs)
end

theorem VRels.length : ∀ {xs ys : List Value}, VRels B ρ xs ys → xs.length = ys.length
  | _, _, .nil => rfl
  | _, _, .cons _ hs => by simp [VRels.length hs]
theorem VRels.get : ∀ {xs ys : List Value}, VRels B ρ xs ys → ∀ {i : Nat} {v : Value}, xs[i]? = some v → ∃ v', ys[i]? = some v' ∧ VRel B ρ v v'
  | _, _, .nil, i, v, h => by simp at h
  | _, _, .cons (x := x) (y := y) hx hs, 0, v, h => by
    simp only [List.getElem?_cons_zero, Option.some.injEq] at h
    subst h
    exact ⟨_, rfl, hx⟩
  | _, _, .cons hx hs, i + 1, v, h => by
    simp only [List.getElem?_cons_succ] at h ⊢
    exact VRels.get hs h
theorem VRels.of_get : ∀ {xs ys : List Value}, xs.length = ys.length → (∀ (i : Nat) (v v' : Value), xs[i]? = some v → ys[i]? = some v' → VRel B ρ v v') → VRels B ρ xs ys
  | [], [], _, _ => .nil
  | [], _ :: _, h, _ => by simp at h
  | _ :: _, [], h, _ => by simp at h
  | x :: xs, y :: ys, hl, h => .cons (h 0 x y rfl rfl) (VRels.of_get (by simpa using hl) fun i v v' h1 h2 => h (i + 1) v v' (by simpa using h1) (by simpa using h2))
theorem VRels.append : ∀ {xs ys us vs : List Value}, VRels B ρ xs ys → VRels B ρ us vs → VRels B ρ (xs ++ us) (ys ++ vs)
  | _, _, _, _, .nil, h => h
  | _, _, _, _, .cons hx hs, h => .cons hx (VRels.append hs h)
theorem VRels.take : ∀ {xs ys : List Value} (n : Nat), VRels B ρ xs ys → VRels B ρ (xs.take n) (ys.take n)
  | _, _, 0, _ => by simpa using VRels.nil
  | _, _, n + 1, .nil => by simpa using VRels.nil
  | _, _, n + 1, .cons hx hs => by simpa using VRels.cons hx (VRels.take n hs)
theorem VRels.drop : ∀ {xs ys : List Value} (n : Nat), VRels B ρ xs ys → VRels B ρ (xs.drop n) (ys.drop n)
  | _, _, 0, h => by simpa using h
  | _, _, n + 1, .nil => by simpa using VRels.nil
  | _, _, n + 1, .cons hx hs => by simpa using VRels.drop n hs
theorem VRels.map {α : Type} {f g : α → Value} (l : List α) (h : ∀ x ∈ l, VRel B ρ (f x) (g x)) : VRels B ρ (l.map f) (l.map g) := by
  induction l with
  | nil => exact .nil
  | cons x l ih => exact .cons (h x (by simp)) (ih fun y hy => h y (by simp [hy]))

theorem rel_plain1 {v : Value} (h : plain1 v = true) : VRel B ρ v v := by
  cases v with
  | bool b => exact .bool b
  | int k n => exact .int k n
  | string s => exact .string s
  | pointer a => cases a with
    | none => exact .ptrNil
    | some a => cases h
  | slice a n c => cases a with
    | none =>
      simp [plain1] at h
      obtain ⟨rfl, rfl⟩ := h
      exact .slNil
    | some a => cases h
  | map r => cases r with
    | none => exact .mapNil
    | some a => cases h
  | nilFunc => exact .nilFunc
  | nilIface => exact .nilIface
  | _ => cases h
theorem rels_plain1 {l : List Value} (h : l.all plain1 = true) : VRels B ρ l l := by
  induction l with
  | nil => exact .nil
  | cons x l ih =>
    simp only [List.all_cons, Bool.and_eq_true] at h
    exact .cons (rel_plain1 h.1) (ih h.2)
theorem rel_plain {v : Value} (h : plainC v = true) : VRel B ρ v v := by
  unfold plainC at h
  split at h
  · exact .agg (rels_plain1 h)
  · rename_i cs
    refine .tuple ?_
    generalize cs.toList = l at h
    induction l with
    | nil => exact .nil
    | cons x l ih =>
      simp only [List.all_cons, Bool.and_eq_true] at h
      refine .cons ?_ (ih h.2)
      have h1 := h.1
      split at h1
      · exact .agg (rels_plain1 h1)
      · exact rel_plain1 h1
  · exact rel_plain1 h

/-- What okCell lets by is of one cell, on both sides. -/
theorem okCell_one {v v' : Value} (h : okCell v = true) (hr : VRel B ρ v v') : v'.oneCell' = true := by
  cases hr <;> first | rfl | (cases h)
theorem okCell_self {v : Value} (h : okCell v = true) : v.cells = #[v] := by
  cases v <;> first | rfl | (cases h)
theorem oneCells_one : ∀ {vs vs' : List Value}, oneCells vs = true → VRels B ρ vs vs' → ∀ u ∈ vs', u.oneCell' = true
  | _, _, _, .nil, u, hu => by cases hu
  | _, _, h, .cons hx hs, u, hu => by
    simp only [oneCells, List.all_cons, Bool.and_eq_true] at h
    cases hu with
    | head => exact okCell_one h.1 hx
    | tail _ hu => exact oneCells_one (by simpa [oneCells] using h.2) hs u hu
/-- The cells of two values that go together. -/
theorem rel_cells {v v' : Value} (ho : oneCells v.cells.toList = true) (hr : VRel B ρ v v') : VRels B ρ v.cells.toList v'.cells.toList := by
  cases hr with
  | junk u => simp [oneCells, junk, Value.cells, okCell] at ho
  | agg hs => exact hs
  | tuple hs => simp [oneCells, Value.cells, okCell] at ho
  | bool b => exact .cons (.bool b) .nil
  | int k n => exact .cons (.int k n) .nil
  | string s => exact .cons (.string s) .nil
  | ptrNil => exact .cons .ptrNil .nil
  | ptrOld h => exact .cons (.ptrOld h) .nil
  | ptrNew h => exact .cons (.ptrNew h) .nil
  | slNil => exact .cons .slNil .nil
  | slOld h => exact .cons (.slOld h) .nil
  | slNew a b c => exact .cons (.slNew a b c) .nil
  | slEmpty a => exact .cons (.slEmpty a) .nil
  | func fn a b => exact .cons (.func fn a b) .nil
  | nilFunc => exact .cons .nilFunc .nil
  | nilIface => exact .cons .nilIface .nil
  | mapNil => exact .cons .mapNil .nil
  | mapNew h => exact .cons (.mapNew h) .nil
end

/-! ### heaps -/
def BlkRel (B : Nat) (ρ : Places) (w : World) (l : Loc) (b : Blk) : Prop :=
  ∃ (c : Array Value) (t : TypeId), w.heap[l.block]? = some (.cells c t (0, 0)) ∧ c.size = l.top ∧ l.base + b.cells.length ≤ l.top ∧ b.sz = l.sz ∧
    ∀ i v, b.cells[i]? = some v → ∃ v', c[l.base + i]? = some v' ∧ VRel B ρ v v'

/-- Entries of a map: the keys are numbers or strings, the same on both sides. -/
inductive ERels (B : Nat) (ρ : Places) : List (Value × Value) → List MapEntry → Prop
  | nil : ERels B ρ [] []
  | cons {k v : Value} {e : MapEntry} {xs : List (Value × Value)} {es : List MapEntry} (hk : e.key = k) (hp : plain1 k = true) (hv : VRel B ρ v e.val) (h : ERels B ρ xs es) : ERels B ρ ((k, v) :: xs) (e :: es)
def MapRel (B : Nat) (ρ : Places) (w : World) (l : Loc) (es : List (Value × Value)) : Prop :=
  ∃ (c : Array MapEntry) (t : Nat), w.heap[l.block]? = some (.map c t) ∧ ERels B ρ es c.toList

structure Sim (B : Nat) (W : World) (ρ : Places) (h : Hp) (w : World) : Prop where
  below : Below B W w
  low : B ≤ W.heap.size
  base : h.base = B
  first : B ≤ h.next
  old : ∀ a v, h.old a = some v → a.block < B ∧ w.cell? a = some v ∧ VRel B ρ v v
  dom : ∀ r l, ρ r = some l → B ≤ r ∧ r < h.next ∧ B ≤ l.block ∧ l.block < w.heap.size
  new : ∀ r b, h.new r = some b → ∃ l, ρ r = some l ∧ BlkRel B ρ w l b
  maps : ∀ r es, h.maps r = some es → ∃ l, ρ r = some l ∧ MapRel B ρ w l es
  apart : ∀ r1 b1 r2 b2 l1 l2, h.new r1 = some b1 → h.new r2 = some b2 → r1 ≠ r2 → ρ r1 = some l1 → ρ r2 = some l2 → l1.block = l2.block →
    (r1 ∈ b2.par ∧ b1.rw = false ∧ l1.base + b1.cells.length ≤ l2.base + b2.cells.length) ∨ (r2 ∈ b1.par ∧ b2.rw = false ∧ l2.base + b2.cells.length ≤ l1.base + b1.cells.length)
  mapsApart : ∀ r1 e1 r2 e2 l1 l2, h.maps r1 = some e1 → h.maps r2 = some e2 → r1 ≠ r2 → ρ r1 = some l1 → ρ r2 = some l2 → l1.block ≠ l2.block

def EnvRel (B : Nat) (ρ : Places) (e : Env) (tmps : Array Value) : Prop := ∀ t, VRel B ρ (e.get t) (tmps.getD t undef)

section
variable {B : Nat} {W : World} {ρ : Places} {h : Hp} {w : World}

theorem Sim.new_lt (s : Sim B W ρ h w) {r : Nat} {b : Blk} (hb : h.new r = some b) : B ≤ r ∧ r < h.next := by
  obtain ⟨l, hl, _⟩ := s.new r b hb
  exact ⟨(s.dom r l hl).1, (s.dom r l hl).2.1⟩
theorem Sim.maps_lt (s : Sim B W ρ h w) {r : Nat} {es : List (Value × Value)} (hb : h.maps r = some es) : B ≤ r ∧ r < h.next := by
  obtain ⟨l, hl, _⟩ := s.maps r es hb
  exact ⟨(s.dom r l hl).1, (s.dom r l hl).2.1⟩
theorem Sim.new_old (s : Sim B W ρ h w) {r : Nat} (hr : r < B) : h.new r = none := by
  cases hb : h.new r with
  | none => rfl
  | some b => have := (s.new_lt hb).1; omega
theorem Sim.next_none (s : Sim B W ρ h w) : ρ h.next = none := by
  cases hb : ρ h.next with
  | none => rfl
  | some l => have := (s.dom _ _ hb).2.1; omega

/-- The machine's address of an address. -/
inductive ARel (B : Nat) (ρ : Places) : Addr → Addr → Prop
  | old {a : Addr} (h : a.block < B) : ARel B ρ a a
  | new {r o : Nat} {l : Loc} (hr : ρ r = some l) : ARel B ρ ⟨r, o, none⟩ ⟨l.block, l.base + o, none⟩
theorem ARel.add {a a' : Addr} (hr : ARel B ρ a a') (n : Nat) : ARel B ρ (a.add n) (a'.add n) := by
  cases hr with
  | old h => exact .old (by unfold Addr.add; split <;> exact h)
  | new hr =>
    unfold Addr.add
    split
    · exact .new hr
    · simp only [Nat.add_assoc]
      exact .new hr
theorem ARel.ptr {a a' : Addr} (hr : ARel B ρ a a') : VRel B ρ (.pointer (some a)) (.pointer (some a')) := by
  cases hr with
  | old h => exact .ptrOld h
  | new hr => exact .ptrNew hr
theorem rel_ptr {a : Addr} {v : Value} (hr : VRel B ρ (.pointer (some a)) v) : ∃ a', v = .pointer (some a') ∧ ARel B ρ a a' := by
  cases hr with
  | ptrOld h => exact ⟨_, rfl, .old h⟩
  | ptrNew h => exact ⟨_, rfl, .new h⟩

theorem add_spot {a : Addr} (n : Nat) (h : a.spot = none) : a.add n = ⟨a.block, a.off + n, none⟩ := by
  unfold Addr.add
  split
  · subst_vars; cases a; simp_all
  · rfl

theorem cell_of_heap {w : World} {b : Nat} {c : Array Value} {t : TypeId} {f : Nat × Nat} (hb : w.heap[b]? = some (.cells c t f)) (o : Nat) : w.cell? ⟨b, o, none⟩ = c[o]? := by
  simp [World.cell?, hb]

/-- A cell that the evaluator sees is there. -/
theorem Sim.cell (s : Sim B W ρ h w) {a a' : Addr} (ha : ARel B ρ a a') {v : Value} (hv : h.cell a = some v) : ∃ v', w.cell? a' = some v' ∧ VRel B ρ v v' := by
  cases ha with
  | old hlt =>
    unfold Hp.cell at hv
    rw [s.new_old hlt] at hv
    obtain ⟨_, h2, h3⟩ := s.old a v hv
    exact ⟨v, h2, h3⟩
  | @new r o l hr =>
    unfold Hp.cell at hv
    dsimp only at hv
    cases hb : h.new r with
    | none =>
      rw [hb] at hv
      have := (s.old _ v hv).1
      have := (s.dom r l hr).1
      simp at *
      omega
    | some b =>
      rw [hb] at hv
      simp only [Option.isNone_none, cond_true] at hv
      obtain ⟨l', hl', c, t, h1, h2, h3, h4, h5⟩ := s.new r b hb
      rw [hr] at hl'
      cases hl'
      obtain ⟨v', hv', hrel⟩ := h5 o v hv
      exact ⟨v', by rw [cell_of_heap h1]; exact hv', hrel⟩
end
end Go.Proofs.Ytcdeeppiljcddaa.AM
