/- AM, the last part: what a law's row hands over, as a heap. Conditions: none. -/
import Derived.Test.YtcdeeppiljcddaaAm25
import Derived.WideShapes
namespace Go.Proofs.Ytcdeeppiljcddaa.AM
open Go
theorem start_ok (w : World) : HpOk (start w) :=
  ⟨fun r b h => (by cases h), fun r es h => (by cases h), fun a v h => by
    simp only [start] at h ⊢
    cases h1 : decide (a.block < w.heap.size) <;> rw [h1] at h
    · cases h
    · exact of_decide_eq_true h1, Nat.le_refl _⟩
/-- A slice of numbers, as a row hands it over. -/
def IsRow (k : IntKind) (w : World) (a : Option Addr) (len cap : Nat) (zs : List Int) : Prop :=
  (a = none ∧ len = 0 ∧ cap = 0 ∧ zs = []) ∨
  ∃ x, a = some x ∧ len ≤ cap ∧ cap ≤ maxLen ∧ zs.length = cap ∧ (∀ i, i < zs.length → w.cell? (x.add i) = some (.int k (zs.getD i 0))) ∧ ∀ n ∈ zs, (Lit.int k n).wf = true
theorem slice_block {P : Program} {W : World} {base : Nat} {t e : TypeId} {x : Addr} {len cap : Nat} (ht : P.underlying t = some (.slice e)) (h : Value.okWide P W .any base t (.slice (some x) len cap)) : x.block < W.heap.size := by
  simp only [Value.okWide, ht, Cell.okWide, Cell.ok] at h
  obtain ⟨_, _, _, _, row, cells, hs, _⟩ := h
  unfold World.shape? at hs
  split at hs
  · rename_i c el rest hh
    rcases Nat.lt_or_ge x.block W.heap.size with h1 | h1
    · exact h1
    · rw [Array.getElem?_eq_none h1] at hh; cases hh
  · cases hs
theorem ints_start {w : World} {a : Option Addr} {len cap : Nat} {zs : List Int} (hr : IsRow .i64 w a len cap zs) (hb : ∀ x, a = some x → x.block < w.heap.size) : Ints (start w) a len cap (zs.take len) := by
  rcases hr with ⟨rfl, rfl, rfl, rfl⟩ | ⟨x, rfl, h1, h2, h3, h4, h5⟩
  · exact Sl.nil _ _
  · refine ⟨by rw [List.length_take]; omega, .inl ⟨hb x rfl, h1⟩, fun i hi => ?_⟩
    rw [List.length_take] at hi
    have := h4 i (by omega)
    refine ⟨x, _, rfl, start_cell this rfl, ?_⟩
    rw [List.getElem_take]
    unfold IntE
    rw [List.getD_eq_getElem?_getD, List.getElem?_eq_getElem (by omega)]
    rfl
theorem flat_row {w : World} {a : Option Addr} {len cap : Nat} {zs : List Int} (hr : IsRow .i64 w a len cap zs) (hb : ∀ x, a = some x → x.block < w.heap.size) : flatB w.heap.size (.slice a len cap) = true := by
  rcases hr with ⟨rfl, rfl, rfl, rfl⟩ | ⟨x, rfl, _⟩
  · rfl
  · exact decide_eq_true (hb x rfl)
theorem eqOK_none (P : Program) : EqOK P (fun _ => none) := fun _ _ h => by cases h
end Go.Proofs.Ytcdeeppiljcddaa.AM
