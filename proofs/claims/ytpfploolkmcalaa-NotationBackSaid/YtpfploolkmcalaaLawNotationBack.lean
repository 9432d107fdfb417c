/- The row of the law NotationBack (printed by row.py). Conditions: none. -/
import Derived.Test.YtpfploolkmcalaaRows
import Derived.Test.YtpfploolkmcalaaVmD
import Derived.Test.YtpfploolkmcalaaOv
import Derived.Test.YtpfploolkmcalaaVr1
import Derived.Test.YtpfploolkmcalaaNz
import Derived.WalkKit
import Derived.ProofKit
import Derived.OpenShut
import Derived.ShutString
import Derived.ChangeOld
import Derived.Below
import Derived.SizedLaws
namespace Go.Proofs.Ytpfploolkmcalaa.notationBack
open Go.ChangeShapes Go.WideShapes Go.ChangeAt Go.RowKit
open Go.ChangeMaps (open_string shut_string)
set_option linter.all false
theorem own : ownKnob Try.prog.godebug = none := by kernel_rfl
theorem laidOut : laidOutB Try.prog = true := by kernel_rfl
theorem walk (a0 : Value) (x0 : VM.T) (a1 : Value) (x1 : VM.T) (w : World) (f0 : VM.FitR Try.prog 26 x0) (g0 : VM.VR (VM.fz0 w) VM.G0 (.t x0) a0) (b0 : AM.flatB w.heap.size a0 = true) (f1 : VM.FitR Try.prog 33 x1) (g1 : VM.VR (VM.fz0 w) VM.G0 (.t x1) a1) (b1 : AM.flatB w.heap.size a1 = true) :
    Calls Try.prog 8 #[a0, a1] w fun e w' => e = .returned (.bool true) ∧ Below w.heap.size w w' := by
  obtain ⟨st, e⟩ := VM.back_spec x0 f0 x1 f1
  refine VM.run_law (H := VM.hint) VM.eq_ok VM.ov_ok VM.ov_v (by kernel_rfl) (.cons g0 (.cons g1 .nil)) (fun v hv => ?_) e
  simp only [List.mem_cons, List.not_mem_nil, or_false] at hv
  rcases hv with rfl | rfl
  · exact b0
  · exact b1
set_option maxRecDepth 100000 in
theorem lifted (os : Os) (started : os.Started) (H : Type) (enc : TypeId × Value → H) :
    ReturnsInHanded {} Try.checked os 8 .any (Rows.notationBackSpec.pre6 enc Try.prog Try.f8 Rows.notationBackRow.domain false) (Rows.notationBackSpec.post enc Try.prog Try.f8 false true false false) := by
  refine returnsInHanded_of_change_sized (C := Try.checked) own started (by kernel_rfl) Try.func8
    (ChangeSpec.witness6 (enc := enc) (C := Try.checked) false ⟨#[], #[.agg #[.slice none 0 0, .slice none 0 0], .agg #[.int .i64 0, .int .i64 0, .string ByteArray.empty, .slice none 0 0, .slice none 0 0]], []⟩ 8 (by kernel_rfl) (by kernel_rfl) (by kernel_rfl) (by kernel_rfl)) ?_
  intro W base args ds gs before hval0 hW hcnd hsz0 _
  have hsz : (DataW.weightsEach Try.prog (Try.f8.params.toList ++ Rows.notationBackSpec.plain.varTypes Try.prog) (ds ++ gs)).all (· ≤ reachBytes) = true := hsz0
  have hval : ∀ (j : Nat) t v, Try.f8.params[j]? = some t → args[j]? = some v → Value.okWide Try.prog W .any base t v := hval0
  have hW' := hW
  obtain ⟨p, q, hA0, hV, rfl, hfz, hnd⟩ := hW
  have hA : DataW.TrodAll enc Try.prog W 0 (fun _ => true) true Try.f8.params.toList args.toList ds p := hA0
  rw [Try.params8] at hA hval hsz
  obtain ⟨v0, vs0, d0, ds0, p0, q0, hargs, rfl, rfl, h0, r0⟩ := trodAll_cons hA
  obtain ⟨v1, vs1, d1, ds1, p1, q1, rfl, rfl, rfl, h1, r1⟩ := trodAll_cons r0
  obtain ⟨rfl, rfl, rfl⟩ := trodAll_nil r1
  obtain rfl : args = #[v0, v1] := by cases args; simp_all
  obtain ⟨rfl, rfl⟩ := trodVars_none hV
  obtain ⟨x0, f0, g0, b0⟩ := VM.data_startR (Ts := [26,33,68,60,9,3]) (by kernel_rfl) (by decide) (hval 0 26 v0 rfl rfl) h0
  have k0 := h0
  have lt0 : ∀ x ∈ p0, x.block < W.heap.size := by obtain ⟨m, hm⟩ := k0; exact DataW.trod_lt m _ _ _ hm
  obtain ⟨x1, f1, g1, b1⟩ := VM.data_startR (Ts := [26,33,68,60,9,3]) (by kernel_rfl) (by decide) (hval 1 33 v1 rfl rfl) h1
  have k1 := h1
  have lt1 : ∀ x ∈ p1, x.block < W.heap.size := by obtain ⟨m, hm⟩ := k1; exact DataW.trod_lt m _ _ _ hm
  clear hA0 hval0 hsz0 hsz
  refine (walk v0 x0 v1 x1 W f0 g0 b0 f1 g1 b1).mono fun e W' ⟨he, bel⟩ => ?_
  subst he
  exact ⟨_, rfl, _, _, _, [], _, [], hW', trodAll_mk1 (shut_bool Try.underlying4 _), (trodAll_cons_mk (Below.trod laidOut (by kernel_rfl) (of_decide_eq_true (by kernel_rfl)) k0 bel lt0) (trodAll_cons_mk (Below.trod laidOut (by kernel_rfl) (of_decide_eq_true (by kernel_rfl)) k1 bel lt1) trodAll_mk0)), rfl, bel.frame _, fun h => by cases h⟩
theorem over : Rows.notationBackRow.holds Try.pinned (OpenSpec.ofChange Rows.notationBackSpec) :=
  OpenClaim.holds_of_wide 8 Try.f8 rfl rfl rfl rfl rfl rfl rfl ⟨rfl, rfl, rfl, rfl, rfl⟩ rfl rfl rfl rfl rfl (by kernel_rfl) Try.func8 (by kernel_rfl)
    (of_decide_eq_true (by kernel_rfl)) (by unfold Func.isWrapper; first | (rw [if_pos (by decide +kernel)]; kernel_rfl) | (rw [if_neg (by decide +kernel)]; exact ⟨rfl, rfl⟩))
    (fun os started H enc _ => lifted os started H enc)
theorem proved : Rows.NotationBackSaid := over
end Go.Proofs.Ytpfploolkmcalaa.notationBack
namespace Go.Proofs.Ytpfploolkmcalaa
/-- The row, under a short name, for the claim. -/
theorem notationBack_holds : Rows.NotationBackSaid := notationBack.proved
#print axioms notationBack_holds
end Go.Proofs.Ytpfploolkmcalaa
