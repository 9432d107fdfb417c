/- What is not gone through: internal/stringslite.IndexByte. Conditions: none. -/
import Derived.Test.YtemdhiejbncafaaQ08
import Derived.Test.YtemdhiejbncafaaVmD
import Derived.Laws.StructEq
import Derived.WalkKit
import Derived.Lib.Strings
import Derived.Lib.Bytealg
import Derived.BigCall
set_option linter.all false
namespace Go.Proofs.Ytemdhiejbncafaa.VM
set_option linter.unusedVariables false
set_option linter.unusedSimpArgs false
set_option linter.unusedSectionVars false
open Go AM Go.RowKit
set_option maxHeartbeats 400000 in
theorem index_calls (s : ByteArray) (c : Int) (w : World) :
    Calls Try.prog 43 #[.string s, .int .u8 c] w fun e w' => e = .returned (.int .i64 (Lib.indexByte s.data.toList c.toNat.toUInt8)) ∧ w' = w := by
  go_enter Try.func43, Try.ntmps43
  go_wp2
  rw [run_callFunc_extern Try.func45 (by kernel_rfl) (by kernel_rfl) (by kernel_rfl) (e := Extern.BytealgIndexByte.indexByte) (by kernel_rfl), Lib.run_indexByteString]
  simp only [Result.andThen]
  rw [Oper.upon_value]
  go_wp2
  go_ret
  exact ⟨rfl, rfl⟩

def ovA (f : FuncId) (vs : List Value) : Option Value := bif f == 43 then ovIndexA vs else none
theorem ovA_some {f : FuncId} {vs : List Value} {v : Value} (h : ovA f vs = some v) : f = 43 ∧ ∃ (s : ByteArray) (c : Int), vs = [.string s, .int .u8 c] ∧ v = .int .i64 (Lib.indexByte s.data.toList c.toNat.toUInt8) := by
  unfold ovA at h
  cases hf : f == 43 <;> rw [hf] at h
  · cases h
  · refine ⟨by simpa using hf, ?_⟩
    simp only [cond_true] at h
    unfold ovIndexA at h
    split at h
    · cases h
      exact ⟨_, _, rfl, rfl⟩
    · cases h
theorem ov_ok : OvOK Try.prog ovA := by
  intro f vs v h
  obtain ⟨rfl, s, c, rfl, rfl⟩ := ovA_some h
  refine ⟨⟨Try.f43, _, Try.func43, rfl, by kernel_rfl⟩, fun B ρ w vs' hr => ?_⟩
  obtain ⟨l⟩ := vs'
  have hl : l = [.string s, .int .u8 c] := by
    cases hr with
    | cons h1 h2 =>
      cases h2 with
      | cons h3 h4 =>
        cases h4
        cases h1
        cases h3
        rfl
  subst hl
  refine (index_calls s c w).mono ?_
  rintro e w' ⟨rfl, rfl⟩
  exact ⟨rfl, _, rfl, .int _ _⟩
theorem ov_v : OvV hint (amHint hint ovA) := by
  refine ⟨fun f us h => ?_, fun f vs v ho hv z G us hr => ?_⟩
  · show ovA f us = none
    have : (f == 43) = false := by
      cases hf : f == 43
      · rfl
      · have : f = 43 := by simpa using hf
        subst this
        revert h
        show (true = false) → _
        intro h; cases h
    unfold ovA
    rw [this]
    rfl
  · have hf : f = 43 := by
      have : [43].contains f = true := ho
      simpa using this
    subst hf
    have hv : ovIndex vs = some v := hv
    unfold ovIndex at hv
    split at hv
    · rename_i s c
      cases hv
      cases hr with
      | cons h1 h2 =>
        cases h2 with
        | cons h3 h4 =>
          cases h4
          cases vr_t h1 with
          | one h5 =>
            cases vr_t h3 with
            | one h6 =>
              cases h5
              cases h6
              exact ⟨_, rfl, .t (.int _ _)⟩
    · cases hv
theorem shape_token {l : List Value} (h : shapeB [.int .i64 0, .string ByteArray.empty, .int .i64 0] l = true) : ∃ (a : Int) (s : ByteArray) (c : Int), l = [.int .i64 a, .string s, .int .i64 c] := by
  cases l with
  | nil => simp [shapeB] at h
  | cons x l =>
    cases x <;> simp [shapeB] at h
    obtain ⟨rfl, h⟩ := h
    cases l with
    | nil => simp [shapeB] at h
    | cons y l =>
      cases y <;> simp [shapeB] at h
      cases l with
      | nil => simp [shapeB] at h
      | cons z l =>
        cases z <;> simp [shapeB] at h
        obtain ⟨rfl, h⟩ := h
        cases l with
        | nil => exact ⟨_, _, _, rfl⟩
        | cons u l => simp [shapeB] at h
theorem eq_ok : EqOK Try.prog hint.eqt := by
  intro t zs h
  have h : look1 eqtTab t = some zs := h
  have ht : t = 31 ∧ zs = [.int .i64 0, .string ByteArray.empty, .int .i64 0] := by
    unfold eqtTab look1 at h
    cases hf : (31 : Nat) == t <;> rw [hf] at h
    · cases h
    · cases h
      exact ⟨by have : 31 = t := by simpa using hf
                exact this.symm, rfl⟩
  obtain ⟨rfl, rfl⟩ := ht
  refine ⟨by kernel_rfl, fun xs ys w b hx hy hb => ?_⟩
  obtain ⟨a, s, c, hx⟩ := shape_token hx
  obtain ⟨a', s', c', hy⟩ := shape_token hy
  obtain ⟨xs⟩ := xs
  obtain ⟨ys⟩ := ys
  simp only at hx hy
  subst hx hy
  have hS : Try.prog.underlying 31 = some (.struct (Try.prog.fieldsOf 31)) := by kernel_rfl
  have hp : Try.prog.stoodInHeld 31 = false := by kernel_rfl
  have hb' : b = (decide (a = a') && (decide (s = s') && (decide (c = c') && true))) := by
    simp [eqCells, eqCell] at hb
    simp [hb.symm]
  subst hb'
  show (Op.equalIn 10000 31 _ _).run Try.prog w = _
  rw [show (10000 : Nat) = 9999 + 1 from rfl, run_equalIn_agg w 9999 31 _ _ hS hp]
  simp only [Program.fieldsOf, Try.underlying31]
  have hbs : (s.toList == s'.toList) = decide (s = s') := by
    by_cases h : s = s'
    · subst h; simp
    · have hne : s.toList ≠ s'.toList := fun e => h (by
        rw [ByteArray.toList_eq, ByteArray.toList_eq] at e
        obtain ⟨x⟩ := s
        obtain ⟨y⟩ := s'
        exact congrArg ByteArray.mk (Array.toList_inj.1 e))
      simp [h, hne]
  go_simp
  by_cases h1 : a = a' <;> by_cases h2 : s = s' <;> by_cases h3 : c = c' <;> simp [h1, h2, h3]
end Go.Proofs.Ytemdhiejbncafaa.VM
