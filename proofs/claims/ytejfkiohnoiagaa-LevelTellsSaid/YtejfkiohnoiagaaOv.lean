/- Equality of structs and arrays. Conditions: none. -/
import Derived.Test.YtejfkiohnoiagaaQ
import Derived.Test.YtejfkiohnoiagaaVmD
import Derived.Laws.StructEq
import Derived.ChangeKeysEq
import Derived.WalkKit
import Derived.Lib.Strings
import Derived.Lib.Bytealg
import Derived.BigCall
set_option linter.all false
namespace Go.Proofs.Ytejfkiohnoiagaa.VM
open Go AM Go.RowKit
def ovA (f : FuncId) (vs : List Value) : Option Value := none
theorem ov_ok : OvOK Try.prog ovA := fun f vs v h => by cases h
theorem ov_v : OvV hint (amHint hint ovA) := ⟨fun f us h => rfl, fun f vs v h => by cases h⟩
theorem eq_t39 (xs ys : Array Value) (w : World) (b : Bool) (hx : shapeB [.int .i64 0, .int .i64 0] xs.toList = true) (hy : shapeB [.int .i64 0, .int .i64 0] ys.toList = true) (hb : eqCells xs.toList ys.toList = some b) : (Op.equal 39 (.agg xs) (.agg ys)).run Try.prog w = .ok b w := by
  obtain ⟨x0, xr0, xe0, xh0⟩ := shape_int hx
  obtain ⟨x1, xr1, xe1, xh1⟩ := shape_int xh0
  have xz := shape_nil xh1
  subst xz
  subst xe1
  obtain ⟨y0, yr0, ye0, yh0⟩ := shape_int hy
  obtain ⟨y1, yr1, ye1, yh1⟩ := shape_int yh0
  have yz := shape_nil yh1
  subst yz
  subst ye1
  obtain ⟨xs⟩ := xs
  obtain ⟨ys⟩ := ys
  simp only at xe0 ye0
  subst xe0 ye0
  have hb' : b = (decide (x0 = y0) && (decide (x1 = y1) && true)) := by
    simp [eqCells, eqCell] at hb
    simp [hb.symm]
  subst hb'
  show (Op.equalIn 10000 39 _ _).run Try.prog w = _
  have hS : Try.prog.underlying 39 = some (.struct (Try.prog.fieldsOf 39)) := by kernel_rfl
  have hp : Try.prog.stoodInHeld 39 = false := by kernel_rfl
  rw [show (10000 : Nat) = 9999 + 1 from rfl, run_equalIn_agg w 9999 39 _ _ hS hp]
  simp only [Program.fieldsOf, Try.underlying39]
  go_simp
  by_cases h0 : x0 = y0 <;> by_cases h1 : x1 = y1 <;> simp [h0, h1]
theorem eq_t56 (xs ys : Array Value) (w : World) (b : Bool) (hx : shapeB [.int .i64 0, .int .i64 0] xs.toList = true) (hy : shapeB [.int .i64 0, .int .i64 0] ys.toList = true) (hb : eqCells xs.toList ys.toList = some b) : (Op.equal 56 (.agg xs) (.agg ys)).run Try.prog w = .ok b w := by
  obtain ⟨x0, xr0, xe0, xh0⟩ := shape_int hx
  obtain ⟨x1, xr1, xe1, xh1⟩ := shape_int xh0
  have xz := shape_nil xh1
  subst xz
  subst xe1
  obtain ⟨y0, yr0, ye0, yh0⟩ := shape_int hy
  obtain ⟨y1, yr1, ye1, yh1⟩ := shape_int yh0
  have yz := shape_nil yh1
  subst yz
  subst ye1
  obtain ⟨xs⟩ := xs
  obtain ⟨ys⟩ := ys
  simp only at xe0 ye0
  subst xe0 ye0
  have hb' : b = (decide (x0 = y0) && (decide (x1 = y1) && true)) := by
    simp [eqCells, eqCell] at hb
    simp [hb.symm]
  subst hb'
  show (Op.equalIn 10000 56 _ _).run Try.prog w = _
  have hA : Try.prog.underlying 56 = some (.array 2 3) := by kernel_rfl
  obtain ⟨ii, hi⟩ : ∃ ii, Try.prog.info? 3 = some ii := ⟨_, rfl⟩
  have hc : Try.prog.cellsOf 3 = 1 := by kernel_rfl
  rw [show (10000 : Nat) = 9999 + 1 from rfl, run_equalIn_array w 9999 _ _ hA hi, hc]
  simp only [show List.range 2 = [0, 1] from rfl, Op.eqItems, Nat.mul_one]
  go_simp
  by_cases h0 : x0 = y0 <;> by_cases h1 : x1 = y1 <;> simp [h0, h1]
theorem eq_ok : EqOK Try.prog hint.eqt := by
  intro t zs h
  have h : look1 eqtTab t = some zs := h
  unfold eqtTab at h
  unfold look1 at h
  cases hf39 : (39 : Nat) == t <;> rw [hf39] at h <;> simp only [cond_true, cond_false] at h
  rotate_left
  · cases h
    obtain rfl : 39 = t := by simpa using hf39
    exact ⟨by kernel_rfl, fun xs ys w b hx hy hb => eq_t39 xs ys w b hx hy hb⟩
  unfold look1 at h
  cases hf56 : (56 : Nat) == t <;> rw [hf56] at h <;> simp only [cond_true, cond_false] at h
  rotate_left
  · cases h
    obtain rfl : 56 = t := by simpa using hf56
    exact ⟨by kernel_rfl, fun xs ys w b hx hy hb => eq_t56 xs ys w b hx hy hb⟩
  cases h
end Go.Proofs.Ytejfkiohnoiagaa.VM
