/- Equality of structs and arrays; what is not gone through: internal/stringslite.IndexByte. Conditions: none. -/
import Derived.Test.YtgkdkjjohknfpaaQ
import Derived.Test.YtgkdkjjohknfpaaVmD
import Derived.Laws.StructEq
import Derived.ChangeKeysEq
import Derived.WalkKit
import Derived.Lib.Strings
import Derived.Lib.Bytealg
import Derived.BigCall
set_option linter.all false
namespace Go.Proofs.Ytgkdkjjohknfpaa.VM
open Go AM Go.RowKit
set_option maxHeartbeats 400000 in
theorem index_calls (s : ByteArray) (c : Int) (w : World) :
    Calls Try.prog 79 #[.string s, .int .u8 c] w fun e w' => e = .returned (.int .i64 (Lib.indexByte s.data.toList c.toNat.toUInt8)) ∧ w' = w := by
  go_enter Try.func79, Try.ntmps79
  go_wp2
  rw [run_callFunc_extern Try.func83 (by kernel_rfl) (by kernel_rfl) (by kernel_rfl) (e := Extern.BytealgIndexByte.indexByte) (by kernel_rfl), Lib.run_indexByteString]
  simp only [Result.andThen]
  rw [Oper.upon_value]
  go_wp2
  go_ret
  exact ⟨rfl, rfl⟩

def ovA (f : FuncId) (vs : List Value) : Option Value := bif f == 79 then ovIndexA vs else none
theorem ovA_some {f : FuncId} {vs : List Value} {v : Value} (h : ovA f vs = some v) : f = 79 ∧ ∃ (s : ByteArray) (c : Int), vs = [.string s, .int .u8 c] ∧ v = .int .i64 (Lib.indexByte s.data.toList c.toNat.toUInt8) := by
  unfold ovA at h
  cases hf : f == 79 <;> rw [hf] at h
  · cases h
  · refine ⟨by simpa using hf, ?_⟩
    simp only [cond_true] at h
    unfold ovIndexA at h
    split at h
    · cases h
      exact ⟨_, _, rfl, rfl⟩
    · cases h
theorem ov_ok : OvOK Try.prog ovA := by
  intro f vs v h
  obtain ⟨rfl, s, c, rfl, rfl⟩ := ovA_some h
  refine ⟨⟨Try.f79, _, Try.func79, rfl, by kernel_rfl⟩, fun B ρ w vs' hr => ?_⟩
  obtain ⟨l⟩ := vs'
  have hl : l = [.string s, .int .u8 c] := by
    cases hr with
    | cons h1 h2 =>
      cases h2 with
      | cons h3 h4 =>
        cases h4
        cases h1
        cases h3
        rfl
  subst hl
  refine (index_calls s c w).mono ?_
  rintro e w' ⟨rfl, rfl⟩
  exact ⟨rfl, _, rfl, .int _ _⟩
theorem ov_v : OvV hint (amHint hint ovA) := by
  refine ⟨fun f us h => ?_, fun f vs v ho hv z G us hr => ?_⟩
  · show ovA f us = none
    have : (f == 79) = false := by
      cases hf : f == 79
      · rfl
      · have : f = 79 := by simpa using hf
        subst this
        revert h
        show (true = false) → _
        intro h; cases h
    unfold ovA
    rw [this]
    rfl
  · have hf : f = 79 := by
      have : [79].contains f = true := ho
      simpa using this
    subst hf
    have hv : ovIndex vs = some v := hv
    unfold ovIndex at hv
    split at hv
    · rename_i s c
      cases hv
      cases hr with
      | cons h1 h2 =>
        cases h2 with
        | cons h3 h4 =>
          cases h4
          cases vr_t h1 with
          | one h5 =>
            cases vr_t h3 with
            | one h6 =>
              cases h5
              cases h6
              exact ⟨_, rfl, .t (.int _ _)⟩
    · cases hv
theorem eq_t34 (xs ys : Array Value) (w : World) (b : Bool) (hx : shapeB [.int .i64 0, .int .i64 0, .int .i64 0, .int .i64 0, .int .i64 0] xs.toList = true) (hy : shapeB [.int .i64 0, .int .i64 0, .int .i64 0, .int .i64 0, .int .i64 0] ys.toList = true) (hb : eqCells xs.toList ys.toList = some b) : (Op.equal 34 (.agg xs) (.agg ys)).run Try.prog w = .ok b w := by
  obtain ⟨x0, xr0, xe0, xh0⟩ := shape_int hx
  obtain ⟨x1, xr1, xe1, xh1⟩ := shape_int xh0
  obtain ⟨x2, xr2, xe2, xh2⟩ := shape_int xh1
  obtain ⟨x3, xr3, xe3, xh3⟩ := shape_int xh2
  obtain ⟨x4, xr4, xe4, xh4⟩ := shape_int xh3
  have xz := shape_nil xh4
  subst xz
  subst xe4
  subst xe3
  subst xe2
  subst xe1
  obtain ⟨y0, yr0, ye0, yh0⟩ := shape_int hy
  obtain ⟨y1, yr1, ye1, yh1⟩ := shape_int yh0
  obtain ⟨y2, yr2, ye2, yh2⟩ := shape_int yh1
  obtain ⟨y3, yr3, ye3, yh3⟩ := shape_int yh2
  obtain ⟨y4, yr4, ye4, yh4⟩ := shape_int yh3
  have yz := shape_nil yh4
  subst yz
  subst ye4
  subst ye3
  subst ye2
  subst ye1
  obtain ⟨xs⟩ := xs
  obtain ⟨ys⟩ := ys
  simp only at xe0 ye0
  subst xe0 ye0
  have hb' : b = (decide (x0 = y0) && (decide (x1 = y1) && (decide (x2 = y2) && (decide (x3 = y3) && (decide (x4 = y4) && true))))) := by
    simp [eqCells, eqCell] at hb
    simp [hb.symm]
  subst hb'
  show (Op.equalIn 10000 34 _ _).run Try.prog w = _
  have hS : Try.prog.underlying 34 = some (.struct (Try.prog.fieldsOf 34)) := by kernel_rfl
  have hp : Try.prog.stoodInHeld 34 = false := by kernel_rfl
  rw [show (10000 : Nat) = 9999 + 1 from rfl, run_equalIn_agg w 9999 34 _ _ hS hp]
  simp only [Program.fieldsOf, Try.underlying34]
  go_simp
  by_cases h0 : x0 = y0 <;> by_cases h1 : x1 = y1 <;> by_cases h2 : x2 = y2 <;> by_cases h3 : x3 = y3 <;> by_cases h4 : x4 = y4 <;> simp [h0, h1, h2, h3, h4]
theorem eq_t62 (xs ys : Array Value) (w : World) (b : Bool) (hx : shapeB [.int .i64 0, .int .i64 0, .int .i64 0] xs.toList = true) (hy : shapeB [.int .i64 0, .int .i64 0, .int .i64 0] ys.toList = true) (hb : eqCells xs.toList ys.toList = some b) : (Op.equal 62 (.agg xs) (.agg ys)).run Try.prog w = .ok b w := by
  obtain ⟨x0, xr0, xe0, xh0⟩ := shape_int hx
  obtain ⟨x1, xr1, xe1, xh1⟩ := shape_int xh0
  obtain ⟨x2, xr2, xe2, xh2⟩ := shape_int xh1
  have xz := shape_nil xh2
  subst xz
  subst xe2
  subst xe1
  obtain ⟨y0, yr0, ye0, yh0⟩ := shape_int hy
  obtain ⟨y1, yr1, ye1, yh1⟩ := shape_int yh0
  obtain ⟨y2, yr2, ye2, yh2⟩ := shape_int yh1
  have yz := shape_nil yh2
  subst yz
  subst ye2
  subst ye1
  obtain ⟨xs⟩ := xs
  obtain ⟨ys⟩ := ys
  simp only at xe0 ye0
  subst xe0 ye0
  have hb' : b = (decide (x0 = y0) && (decide (x1 = y1) && (decide (x2 = y2) && true))) := by
    simp [eqCells, eqCell] at hb
    simp [hb.symm]
  subst hb'
  show (Op.equalIn 10000 62 _ _).run Try.prog w = _
  have hA : Try.prog.underlying 62 = some (.array 3 3) := by kernel_rfl
  have hi0 : (Try.prog.info? 3).isSome = true := by kernel_rfl
  obtain ⟨ii, hi⟩ := Option.isSome_iff_exists.1 hi0
  have hc : Try.prog.cellsOf 3 = 1 := by kernel_rfl
  rw [show (10000 : Nat) = 9999 + 1 from rfl, run_equalIn_array w 9999 _ _ hA hi, hc]
  simp only [show List.range 3 = [0, 1, 2] from rfl, Op.eqItems, Nat.mul_one]
  go_simp
  by_cases h0 : x0 = y0 <;> by_cases h1 : x1 = y1 <;> by_cases h2 : x2 = y2 <;> simp [h0, h1, h2]
theorem eq_t72 (xs ys : Array Value) (w : World) (b : Bool) (hx : shapeB [.int .u64 0, .int .u64 0] xs.toList = true) (hy : shapeB [.int .u64 0, .int .u64 0] ys.toList = true) (hb : eqCells xs.toList ys.toList = some b) : (Op.equal 72 (.agg xs) (.agg ys)).run Try.prog w = .ok b w := by
  obtain ⟨x0, xr0, xe0, xh0⟩ := shape_int hx
  obtain ⟨x1, xr1, xe1, xh1⟩ := shape_int xh0
  have xz := shape_nil xh1
  subst xz
  subst xe1
  obtain ⟨y0, yr0, ye0, yh0⟩ := shape_int hy
  obtain ⟨y1, yr1, ye1, yh1⟩ := shape_int yh0
  have yz := shape_nil yh1
  subst yz
  subst ye1
  obtain ⟨xs⟩ := xs
  obtain ⟨ys⟩ := ys
  simp only at xe0 ye0
  subst xe0 ye0
  have hb' : b = (decide (x0 = y0) && (decide (x1 = y1) && true)) := by
    simp [eqCells, eqCell] at hb
    simp [hb.symm]
  subst hb'
  show (Op.equalIn 10000 72 _ _).run Try.prog w = _
  have hA : Try.prog.underlying 72 = some (.array 2 70) := by kernel_rfl
  have hi0 : (Try.prog.info? 70).isSome = true := by kernel_rfl
  obtain ⟨ii, hi⟩ := Option.isSome_iff_exists.1 hi0
  have hc : Try.prog.cellsOf 70 = 1 := by kernel_rfl
  rw [show (10000 : Nat) = 9999 + 1 from rfl, run_equalIn_array w 9999 _ _ hA hi, hc]
  simp only [show List.range 2 = [0, 1] from rfl, Op.eqItems, Nat.mul_one]
  go_simp
  by_cases h0 : x0 = y0 <;> by_cases h1 : x1 = y1 <;> simp [h0, h1]
theorem eq_ok : EqOK Try.prog hint.eqt := by
  intro t zs h
  have h : look1 eqtTab t = some zs := h
  unfold eqtTab at h
  unfold look1 at h
  cases hf34 : (34 : Nat) == t <;> rw [hf34] at h <;> simp only [cond_true, cond_false] at h
  rotate_left
  · cases h
    obtain rfl : 34 = t := by simpa using hf34
    exact ⟨by kernel_rfl, fun xs ys w b hx hy hb => eq_t34 xs ys w b hx hy hb⟩
  unfold look1 at h
  cases hf62 : (62 : Nat) == t <;> rw [hf62] at h <;> simp only [cond_true, cond_false] at h
  rotate_left
  · cases h
    obtain rfl : 62 = t := by simpa using hf62
    exact ⟨by kernel_rfl, fun xs ys w b hx hy hb => eq_t62 xs ys w b hx hy hb⟩
  unfold look1 at h
  cases hf72 : (72 : Nat) == t <;> rw [hf72] at h <;> simp only [cond_true, cond_false] at h
  rotate_left
  · cases h
    obtain rfl : 72 = t := by simpa using hf72
    exact ⟨by kernel_rfl, fun xs ys w b hx hy hb => eq_t72 xs ys w b hx hy hb⟩
  cases h
end Go.Proofs.Ytgkdkjjohknfpaa.VM
