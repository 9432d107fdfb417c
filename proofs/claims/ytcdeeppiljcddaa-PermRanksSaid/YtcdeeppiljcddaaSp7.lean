/- The chapter's examples are as the chapter says. Conditions: none. -/
import Derived.Test.YtcdeeppiljcddaaSp6
namespace Go.Proofs.Ytcdeeppiljcddaa.AM
open Go
section
variable {h h0 : Hp}
theorem runC_givesL {R : Type} {o : Option (Value × Hp)} {l : List (List Int)} {e : Int} (hg : GivesL o h l e) : ∃ h' a n c, Keeps h h' ∧ Lists h' a n c l ∧
    ∀ (K : Option Addr → Nat → Nat → Int → Hp → Option R), (runC o fun v h2 => tupC v fun l3 => consC l3 fun v4 l5 => asSliceC v4 fun a n c => consC l5 fun v9 l10 => asIntC .i64 v9 fun x => endC l10 (K a n c x h2)) = K a n c e h' := by
  obtain ⟨h', a, n, c, h1, h2, h3⟩ := hg
  refine ⟨h', a, n, c, h2, h3, fun K => ?_⟩
  rw [h1, runC_some]
  show tupC (.tuple (List.toArray [Value.slice a n c, Value.int .i64 e])) _ = _
  rw [tupC_mk, consC_cons, asSl_mk, consC_cons, asInt_mk, endC_nil]
theorem Lists.keeps {h' : Hp} (hok : HpOk h) (hk : Keeps h h') {a : Option Addr} {n c : Nat} {l : List (List Int)} (hs : Lists h a n c l) : Lists h' a n c l := Sl.keeps (stays_sl (stays_int _)) hok hk hs
theorem keeps_lit {h0 : Hp} (hk : Keeps h0 h) (cs : List Value) : Keeps h0 (h.alloc cs 1 []) := keeps_alloc hk _ _ _
theorem keeps_one (hok : HpOk h) (cs : List Value) (sz : Nat) : Keeps h (h.alloc cs sz []) := keeps_alloc (Keeps.refl hok) _ _ _
theorem live_spec (hok : HpOk h) : ∃ h', run 11 [] h = some (.bool true, h') ∧ Keeps h h' := by
  rw [eq11]
  obtain ⟨h1, a1, n1, c1, k1, m1, e1⟩ := runC_gives (R := Value × Hp) (nth_spec hok 3 3)
  rw [e1 (fun a n c x h => _)]
  have hn : nthL 3 3 = [1, 2, 0] := by decide
  have hne : nthE 3 3 = 0 := by decide
  rw [hn] at m1
  rw [hne]
  simp only [lt]
  have q1 : Ints (h1.alloc [.int .i64 1, .int .i64 0, .int .i64 2] 1 []) (some ⟨h1.next, 0, none⟩) 3 0 [1, 0, 2] := lit_ints k1.ok [1, 0, 2]
  have kk1 : Keeps h1 (h1.alloc [.int .i64 1, .int .i64 0, .int .i64 2] 1 []) := keeps_one k1.ok _ 1
  obtain ⟨h2, a2, n2, c2, k2, m2, e2⟩ := runC_givesL (R := Value × Hp) (cycles_spec kk1.ok q1)
  have hc : cyclesL [1, 0, 2] = [[0, 1], [2]] := by decide
  have hce : ordE [1, 0, 2] = 0 := by decide
  rw [hc] at m2
  rw [hce] at e2
  rw [e2 (fun a_18 n_19 c_20 x_23 h_14 => _)]
  have k12 := kk1.trans k2
  have kk2 : Keeps h2 (h2.alloc [.int .i64 1, .int .i64 2, .int .i64 0] 1 []) := keeps_one k2.ok _ 1
  have i1 := ((m1.keeps k1.ok k12).keeps k2.ok kk2).ints kk2.ok
  have i2 : Ints (h2.alloc [.int .i64 1, .int .i64 2, .int .i64 0] 1 []) (some ⟨h2.next, 0, none⟩) 3 0 [1, 2, 0] := lit_ints k2.ok [1, 2, 0]
  have n1l := i1.len
  rw [equal_spec i1 i2 (by rw [n1l]; decide), runC_some, asBool_mk]
  simp only [decide_true, cond_true]
  generalize hh3 : h2.alloc [.int .i64 1, .int .i64 2, .int .i64 0] 1 [] = h3 at *
  have j1 : Ints (h3.alloc [.int .i64 0, .int .i64 1] 1 []) (some ⟨h3.next, 0, none⟩) 2 0 [0, 1] := lit_ints kk2.ok [0, 1]
  have kk3 : Keeps h3 (h3.alloc [.int .i64 0, .int .i64 1] 1 []) := keeps_one kk2.ok _ 1
  generalize h3.alloc [.int .i64 0, .int .i64 1] 1 [] = h4 at *
  have j2 : Ints (h4.alloc [.int .i64 2] 1 []) (some ⟨h4.next, 0, none⟩) 1 0 [2] := lit_ints kk3.ok [2]
  have kk4 : Keeps h4 (h4.alloc [.int .i64 2] 1 []) := keeps_one kk3.ok _ 1
  have j1' := Ints.keeps kk3.ok kk4 j1
  generalize h4.alloc [.int .i64 2] 1 [] = h5 at *
  have kk5 : Keeps h5 (h5.alloc [.slice (some ⟨h3.next, 0, none⟩) 2 0, .slice (some ⟨h4.next, 0, none⟩) 1 0] 1 []) := keeps_one kk4.ok _ 1
  have j1'' := Ints.keeps kk4.ok kk5 j1'
  have j2' := Ints.keeps kk4.ok kk5 j2
  have j3 : Lists (h5.alloc [.slice (some ⟨h3.next, 0, none⟩) 2 0, .slice (some ⟨h4.next, 0, none⟩) 1 0] 1 []) (some ⟨h5.next, 0, none⟩) 2 0 [[0, 1], [2]] :=
    lit_sl (cs := [.slice (some ⟨h3.next, 0, none⟩) 2 0, .slice (some ⟨h4.next, 0, none⟩) 1 0]) kk4.ok rfl rfl fun i hi => by
      match i, hi with
      | 0, _ => exact ⟨_, _, _, rfl, j1''⟩
      | 1, _ => exact ⟨_, _, _, rfl, j2'⟩
  have m5 := Lists.keeps k2.ok (kk2.trans (kk3.trans (kk4.trans kk5))) m2
  have n5l := m5.len
  rw [same_spec m5 j3 (by rw [n5l]; decide) (by decide), runC_some, asBool_mk]
  simp only [decide_true, cond_true]
  exact ⟨_, rfl, k1.trans (kk1.trans (k2.trans (kk2.trans (kk3.trans (kk4.trans kk5)))))⟩
end
end Go.Proofs.Ytcdeeppiljcddaa.AM
