/- The row of the law ValidTells (printed by row.py). Conditions: none. -/
import Derived.Test.YtgkdkjjohknfpaaRows
import Derived.Test.YtgkdkjjohknfpaaVmD
import Derived.Test.YtgkdkjjohknfpaaOv
import Derived.Test.YtgkdkjjohknfpaaTw
import Derived.WalkKit
import Derived.ProofKit
import Derived.OpenShut
import Derived.ShutString
import Derived.ChangeOld
import Derived.Below
import Derived.SizedLaws
namespace Go.Proofs.Ytgkdkjjohknfpaa.validTells
open Go.ChangeShapes Go.WideShapes Go.ChangeAt Go.RowKit
open Go.ChangeMaps (open_string shut_string)
set_option linter.all false
theorem own : ownKnob Try.prog.godebug = none := by kernel_rfl
theorem laidOut : laidOutB Try.prog = true := by kernel_rfl
theorem walk (a0 : Value) (x0 : VM.T) (w : World) (f0 : VM.FitT [.int .i64, .int .i64, .int .i64, .list [.int .i64, .int .i64, .int .i64, .int .i64, .int .i64] true] true x0) (g0 : VM.VR (VM.fz0 w) VM.G0 (.t x0) a0) (b0 : AM.flatB w.heap.size a0 = true) :
    Calls Try.prog 7 #[a0] w fun e w' => e = .returned (.bool true) ∧ Below w.heap.size w w' := by
  obtain ⟨st, e⟩ := VM.tells_spec x0 f0
  refine VM.run_law (H := VM.hint) VM.eq_ok VM.ov_ok VM.ov_v (by kernel_rfl) (.cons g0 .nil) (fun v hv => ?_) e
  simp only [List.mem_cons, List.not_mem_nil, or_false] at hv
  subst hv
  exact b0
set_option maxRecDepth 100000 in
theorem lifted (os : Os) (started : os.Started) (H : Type) (enc : TypeId × Value → H) :
    ReturnsInHanded {} Try.checked os 7 .any (Rows.validTellsSpec.pre6 enc Try.prog Try.f7 Rows.validTellsRow.domain false) (Rows.validTellsSpec.post enc Try.prog Try.f7 false true false false) := by
  refine returnsInHanded_of_change_sized (C := Try.checked) own started (by kernel_rfl) Try.func7
    (ChangeSpec.witness6 (enc := enc) (C := Try.checked) false ⟨#[], #[.agg #[.int .i64 0, .int .i64 0, .int .i64 0, .slice none 0 0]], []⟩ 8 (by kernel_rfl) (by kernel_rfl) (by kernel_rfl) (by kernel_rfl)) ?_
  intro W base args ds gs before hval0 hW hcnd hsz0 _
  have hsz : (DataW.weightsEach Try.prog (Try.f7.params.toList ++ Rows.validTellsSpec.plain.varTypes Try.prog) (ds ++ gs)).all (· ≤ reachBytes) = true := hsz0
  have hval : ∀ (j : Nat) t v, Try.f7.params[j]? = some t → args[j]? = some v → Value.okWide Try.prog W .any base t v := hval0
  have hW' := hW
  obtain ⟨p, q, hA0, hV, rfl, hfz, hnd⟩ := hW
  have hA : DataW.TrodAll enc Try.prog W 0 (fun _ => true) true Try.f7.params.toList args.toList ds p := hA0
  rw [Try.params7] at hA hval hsz
  obtain ⟨v0, vs0, d0, ds0, p0, q0, hargs, rfl, rfl, h0, r0⟩ := trodAll_cons hA
  obtain ⟨rfl, rfl, rfl⟩ := trodAll_nil r0
  obtain rfl : args = #[v0] := by cases args; simp_all
  obtain ⟨rfl, rfl⟩ := trodVars_none hV
  obtain ⟨x0, f0, g0, b0, m0⟩ := VM.data_start (m := 8) (es := [.int .i64, .int .i64, .int .i64, .list [.int .i64, .int .i64, .int .i64, .int .i64, .int .i64] true]) (ag := true) (by kernel_rfl) (hval 0 24 v0 rfl rfl) h0
  have k0 := h0
  have lt0 : ∀ x ∈ p0, x.block < W.heap.size := by obtain ⟨m, hm⟩ := k0; exact DataW.trod_lt m _ _ _ hm
  clear hA0 hval0 hsz0 hsz
  refine (walk v0 x0 W f0 g0 b0).mono fun e W' ⟨he, bel⟩ => ?_
  subst he
  exact ⟨_, rfl, _, _, _, [], _, [], hW', trodAll_mk1 (shut_bool Try.underlying4 _), (trodAll_cons_mk (Below.trod laidOut (by kernel_rfl) (of_decide_eq_true (by kernel_rfl)) k0 bel lt0) trodAll_mk0), rfl, bel.frame _, fun h => by cases h⟩
theorem over : Rows.validTellsRow.holds Try.pinned (OpenSpec.ofChange Rows.validTellsSpec) :=
  OpenClaim.holds_of_wide 7 Try.f7 rfl rfl rfl rfl rfl rfl rfl ⟨rfl, rfl, rfl, rfl, rfl⟩ rfl rfl rfl rfl rfl (by kernel_rfl) Try.func7 (by kernel_rfl)
    (of_decide_eq_true (by kernel_rfl)) (by unfold Func.isWrapper; first | (rw [if_pos (by decide +kernel)]; kernel_rfl) | (rw [if_neg (by decide +kernel)]; exact ⟨rfl, rfl⟩))
    (fun os started H enc _ => lifted os started H enc)
theorem proved : Rows.ValidTellsSaid := over
end Go.Proofs.Ytgkdkjjohknfpaa.validTells
namespace Go.Proofs.Ytgkdkjjohknfpaa
/-- The row, under a short name, for the claim. -/
theorem validTells_holds : Rows.ValidTellsSaid := validTells.proved
#print axioms validTells_holds
end Go.Proofs.Ytgkdkjjohknfpaa
