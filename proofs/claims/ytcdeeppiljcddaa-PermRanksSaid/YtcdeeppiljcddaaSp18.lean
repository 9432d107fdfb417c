/- Specs of the plain answers: cycles. Conditions: none. -/
import Derived.Test.YtcdeeppiljcddaaSp17
namespace Go.Proofs.Ytcdeeppiljcddaa.AM
open Go
section
variable {h h0 : Hp}
def metCells (left : List Int) : List Value := left.map fun y => .bool (decide (y < 0))
theorem metCells_length (left : List Int) : (metCells left).length = left.length := by simp [metCells]
noncomputable def rendIn (pa : Option Addr) (pn pc : Nat) (oa : Option Addr) (on oc : Nat) (ma : Option Addr) (mn mc : Nat) (ca : Option Addr) (cn cc : Nat) (t16 t17 : Int) (h : Hp) : Option (Value × Hp) :=
  bif decide (0 < (cn : Int)) then
    lt (h.alloc [(.slice ca cn cc)] 1 []) fun h_13 =>
    srcC h_13 1 1 (.slice (some ⟨h.next, 0, none⟩) 1 0) fun vs_14 =>
    growT h_13 1 24 oa on oc 1 vs_14 fun a_15 n_16 c_17 h_18 =>
    L32_6 pa pn pc a_15 n_16 c_17 ma mn mc t16 (IntKind.i64.wrap (t17 + 1)) h_18
  else L32_6 pa pn pc oa on oc ma mn mc t16 (IntKind.i64.wrap (t17 + 1)) h
def LeftP (p left : List Int) : Prop := left.length = p.length ∧ ∀ y : Nat, y < p.length → atL left (y : Int) = -1 ∨ atL left (y : Int) = atL p (y : Int)
theorem LeftP.set {p left : List Int} (h : LeftP p left) {x : Nat} (hx : x < p.length) : LeftP p (left.set x (-1)) :=
  ⟨by rw [List.length_set]; exact h.1, fun y hy => by
    have hl := h.1
    by_cases hxy : x = y
    · left
      subst hxy
      rw [atL_eq (by rw [List.length_set]; omega)]
      simp
    · have : atL (left.set x (-1)) (y : Int) = atL left (y : Int) := by
        rw [atL_eq (by rw [List.length_set]; omega), atL_eq (by omega), List.getElem_set_ne hxy]
      rw [this]
      exact h.2 y hy⟩
theorem rinner {lo rl : Nat} (hlo : h0.next = lo) (hok : HpOk h0) {p : List Int} {pa : Option Addr} {pn pc mc on oc : Nat} {oa : Option Addr} {ocs : List Value} (hp : Ints h0 pa pn pc p) (ho : isOrd p = true) (i : Nat) :
    ∀ (f : Nat) (left : List Int) (x : Nat) (c : List Int) (h : Hp) (ca : Option Addr), leftN left < f → LeftP p left → x < pn → c.length + leftN left ≤ 1000 →
      Mine h lo (some ⟨rl, 0, none⟩) pn mc (metCells left) → Mine h (rl + 1) oa on oc ocs → Mine h (rl + 1) ca c.length 0 (intCells c) → (∀ q, oa = some ⟨q, 0, none⟩ → ca ≠ some ⟨q, 0, none⟩) → Keeps h0 h →
      ∃ h' ca', L32_10 pa pn pc oa on oc (some ⟨rl, 0, none⟩) pn mc ca c.length 0 (x : Int) (pn : Int) (i : Int) h = rendIn pa pn pc oa on oc (some ⟨rl, 0, none⟩) pn mc ca' (goC f left x c).1.length 0 (pn : Int) (i : Int) h' ∧
        LeftP p (goC f left x c).2 ∧ Mine h' lo (some ⟨rl, 0, none⟩) pn mc (metCells (goC f left x c).2) ∧ Mine h' (rl + 1) oa on oc ocs ∧ Mine h' (rl + 1) ca' (goC f left x c).1.length 0 (intCells (goC f left x c).1) ∧
        (∀ q, oa = some ⟨q, 0, none⟩ → ca' ≠ some ⟨q, 0, none⟩) ∧ Keeps h0 h' ∧ Later (rl + 1) h h' := by
  have hpn := hp.len
  intro f
  induction f with
  | zero => intro left x c h ca h1; omega
  | succ f ih =>
    intro left x c h ca hf hL hx hc hml hmo hmc hd hk
    have hlen := hL.1
    have hxl : x < left.length := by omega
    have hxp : x < p.length := by omega
    have hat : atL left (x : Int) = left[x] := atL_eq hxl
    have hcell : (metCells left)[x]? = some (.bool (decide (left[x] < 0))) := by simp [metCells, hxl]
    have hld : ∀ {h : Hp} (K : Bool → Option (Value × Hp)), Mine h lo (some ⟨rl, 0, none⟩) pn mc (metCells left) → ldB h (adr (some ⟨rl, 0, none⟩) (x : Int)) K = K (decide (left[x] < 0)) := fun K hm => ldB_of ((hm.cellAt x).trans hcell) K
    rw [L32_10_eq, hml.at (i := x) (by rw [metCells_length]; exact hxl), hld _ hml]
    unfold goC
    rw [hat]
    by_cases h1 : 0 ≤ left[x]
    · rw [decide_eq_false (by omega : ¬ left[x] < 0), Bool.not_false, cond_true, if_pos h1]
      rw [hml.at (i := x) (by rw [metCells_length]; exact hxl)]
      obtain ⟨h1', s1, s2, s3, s4, s5⟩ := hml.st (i := x) (by rw [metCells_length]; exact hxl) (v := .bool true) rfl
      rw [s1]
      have hset : (metCells left).set x (.bool true) = metCells (left.set x (-1)) := by
        unfold metCells
        rw [List.map_set]
        rfl
      rw [hset] at s2
      have hk1 : Keeps h0 h1' := s3 _ hk (by omega)
      have hmo1 : Mine h1' (rl + 1) oa on oc ocs := hmo.frame fun q b hq hb => s4 rl q b rfl hb (by have := (hmo.lt hk.ok hq).1; omega)
      have hmc1 : Mine h1' (rl + 1) ca c.length 0 (intCells c) := hmc.frame fun q b hq hb => s4 rl q b rfl hb (by have := (hmc.lt hk.ok hq).1; omega)
      obtain ⟨h2', r', e1, e2, e3, e4, e5, e6⟩ := append1 hk1.ok (lo := rl + 1) (by have := (s2.lt hk1.ok rfl).2; omega) hmc1 (bytes := 8) (v := .int .i64 (x : Int)) rfl (by omega) (by omega)
      rw [e1]
      have hrl : ca ≠ some ⟨rl, 0, none⟩ := fun he => by have := (hmc1.lt hk1.ok he).1; omega
      have hml2 : Mine h2' lo (some ⟨rl, 0, none⟩) pn mc (metCells (left.set x (-1))) := s2.frame fun q b hq hb => e4 q b hb (by cases hq; exact hrl)
      have hmo2 : Mine h2' (rl + 1) oa on oc ocs := hmo1.frame fun q b hq hb => e4 q b hb (hd q hq)
      have hk2 : Keeps h0 h2' := e3 _ hk1 (by have := (s2.lt hk1.ok rfl).1; omega)
      have hmc2 : Mine h2' (rl + 1) (some ⟨r', 0, none⟩) (c ++ [(x : Int)]).length 0 (intCells (c ++ [(x : Int)])) := by
        rw [List.length_append, intCells_append]
        exact e2
      rw [(hp.keeps hok hk2).get hxp]
      have hpx : p[x] = left[x] := by
        rcases hL.2 x hxp with h | h
        · rw [hat] at h; omega
        · rw [hat, atL_eq hxp] at h; exact h.symm
      rw [hpx]
      have hin := ord_at ho (x := (x : Int)) (by omega) (by omega)
      rw [atL_eq hxp, hpx] at hin
      obtain ⟨y, hy⟩ : ∃ y : Nat, left[x] = y := ⟨left[x].toNat, by omega⟩
      have hcnt := leftN_set hxl h1
      obtain ⟨h3, ca3, g1, g2, g3, g4, g5, g6, g7, g8⟩ := ih (left.set x (-1)) y (c ++ [(x : Int)]) h2' (some ⟨r', 0, none⟩) (by omega) (hL.set hxp) (by omega) (by rw [List.length_append]; simp; omega) hml2 hmo2 hmc2 (fun q hq he => by
        have := (hmo1.lt hk1.ok hq).2
        cases he
        omega) hk2
      rw [hy, Int.toNat_natCast]
      refine ⟨h3, ca3, ?_, g2, g3, g4, g5, g6, g7, ?_⟩
      · rw [List.length_append] at g1
        exact g1
      · refine Later.trans (Later.trans ?_ (e6 _)) g8
        intro q b hq hb
        exact ⟨b, s4 rl q b rfl hb (by omega), rfl, rfl⟩
    · rw [decide_eq_true (by omega : left[x] < 0), Bool.not_true, cond_false, if_neg h1]
      exact ⟨h, ca, rfl, hL, hml, hmo, hmc, hd, hk, Later.refl _ _⟩
theorem LeftP.le {p left : List Int} (h : LeftP p left) : leftN left ≤ p.length := by
  have := List.countP_le_length (p := fun y => decide (0 ≤ y)) (l := left)
  rw [h.1] at this
  exact this
theorem router {lo rl : Nat} (hlo : h0.next = lo) (hok : HpOk h0) {p : List Int} {pa : Option Addr} {pn pc mc : Nat} (hp : Ints h0 pa pn pc p) (ho : isOrd p = true) :
    ∀ (j k : Nat) (h : Hp) (left : List Int) (outs : List (List Int)) (oa : Option Addr) (ocs : List Value), j + k = pn → LeftP p left → outs.length ≤ k →
      Mine h lo (some ⟨rl, 0, none⟩) pn mc (metCells left) → Mine h (rl + 1) oa outs.length 0 ocs → OutOk h (rl + 1) ocs outs → Keeps h0 h →
      ∃ h' oa' on' oc' ocs' , L32_6 pa pn pc oa outs.length 0 (some ⟨rl, 0, none⟩) pn mc (pn : Int) (k : Int) h = some (.tuple #[.slice oa' on' oc', .int .i64 0], h') ∧
        Mine h' (rl + 1) oa' on' oc' ocs' ∧ OutOk h' (rl + 1) ocs' (cycRun pn ((List.range pn).drop k) (left, outs)).2 ∧ Keeps h0 h' := by
  have hpn := hp.len
  have hn := ord_le ho
  intro j
  induction j with
  | zero =>
    intro k h left outs oa ocs hk hL ho hml hmo hoo hkp
    refine ⟨h, oa, _, 0, ocs, ?_, hmo, ?_, hkp⟩
    · rw [L32_6_eq, decide_eq_false (by omega), cond_false]
    · rw [List.drop_of_length_le (by simp; omega)]
      exact hoo
  | succ j ih =>
    intro k h left outs oa ocs hk hL hol hml hmo hoo hkp
    have hd : (List.range pn).drop k = k :: (List.range pn).drop (k + 1) := by
      rw [List.drop_eq_getElem_cons (by simp; omega)]
      simp
    rw [hd, L32_6_eq, decide_eq_true (by omega), cond_true]
    have hle := hL.le
    obtain ⟨h1, ca, e1, eL, e2, e3, e4, e6, e7, e8⟩ := rinner hlo hok (rl := rl) (mc := mc) (oa := oa) (on := outs.length) (oc := 0) (ocs := ocs) hp ho k (pn + 1) left k [] h none (by omega) hL (by omega) (by simp; omega) hml hmo (Mine.nil _ _) (fun q hq => by simp) hkp
    have e1' : L32_10 pa pn pc oa outs.length 0 (some ⟨rl, 0, none⟩) pn mc none 0 0 (k : Int) (pn : Int) (k : Int) h = _ := e1
    rw [e1']
    have hoo1 := hoo.later e8
    unfold cycRun
    rw [List.foldl_cons]
    have hst : cycStep pn (left, outs) k = ((goC (pn + 1) left (k : Int) []).2, if (goC (pn + 1) left (k : Int) []).1 = [] then outs else outs ++ [(goC (pn + 1) left (k : Int) []).1]) := rfl
    rw [hst]
    generalize goC (pn + 1) left (k : Int) [] = g at *
    unfold rendIn
    by_cases hc : g.1 = []
    · rw [decide_eq_false (by rw [hc]; simp), cond_false, wrap_nat (by omega), if_pos hc]
      exact ih (k + 1) h1 g.2 outs oa ocs (by omega) eL (by omega) e2 e3 hoo1 e7
    · have hpos := List.length_pos_iff.2 hc
      rw [decide_eq_true (by omega), cond_true, if_neg hc]
      obtain ⟨h2, r2, f1, f2, f3, f4, f5, f6⟩ := append1 e7.ok (lo := rl + 1) (by have := (e2.lt e7.ok rfl).2; omega) e3 (bytes := 24) (v := .slice ca g.1.length 0) rfl (by omega) (by omega)
      rw [f1, wrap_nat (by omega)]
      have hml2 : Mine h2 lo (some ⟨rl, 0, none⟩) pn mc (metCells g.2) := e2.frame fun q b hq hb => f4 q b hb (fun he => by
        have := (e3.lt e7.ok he).1
        cases hq
        omega)
      have hl2 : (outs ++ [g.1]).length = outs.length + 1 := by simp
      have := ih (k + 1) h2 g.2 (outs ++ [g.1]) (some ⟨r2, 0, none⟩) (ocs ++ [.slice ca g.1.length 0]) (by omega) eL (by omega) hml2 (by rw [hl2]; exact f2) ⟨by simp [hoo1.1], fun i hi => by
        rw [hl2] at hi
        by_cases hi2 : i < outs.length
        · obtain ⟨a, m, g1, g2⟩ := hoo1.2 i hi2
          refine ⟨a, m, ?_, ?_⟩
          · rw [List.getElem?_append_left (by rw [hoo1.1]; exact hi2)]; exact g1
          · rw [List.getElem_append_left hi2]; exact g2.later (f6 _)
        · have : i = outs.length := by omega
          subst this
          refine ⟨ca, g.1.length, ?_, ?_⟩
          · rw [← hoo1.1]; simp
          · rw [List.getElem_append_right (Nat.le_refl _)]
            simpa using e4.above.later (f6 _)⟩ (f3 _ e7 (by have := (e2.lt e7.ok rfl).1; omega))
      rw [hl2] at this
      exact this
theorem rcycles_spec (hok : HpOk h) {a : Option Addr} {n c : Nat} {p : List Int} (hp : Ints h a n c p) : GivesL (run 32 [.slice a n c] h) h (cyclesL p) (ordE p) := by
  rw [eq32, is_spec hp, runC_some, asBool_mk]
  have hpn := hp.len
  unfold cyclesL ordE
  cases ho : isOrd p with
  | false =>
    simp only [Bool.false_eq_true, if_false, Bool.not_false, cond_true]
    exact ⟨h, none, 0, 0, rfl, Keeps.refl hok, Sl.nil _ _⟩
  | true =>
    simp only [if_true, Bool.not_true, cond_false]
    have hle := ord_le ho
    obtain ⟨h1, e1, e2, e3⟩ := mk_mine (h := h) (z := .bool false) rfl (bytes := 1) (n := n) (by omega)
    rw [e1]
    have hm0 : List.replicate n (Value.bool false) = metCells p := by
      apply List.ext_getElem
      · rw [metCells_length]; simp [hpn]
      · intro i h1 h2
        rw [metCells_length] at h2
        have := (ord_mem ho).1 (List.getElem_mem h2)
        simp [metCells]
        omega
    rw [hm0] at e2
    obtain ⟨h2, oa, on, oc, ocs, f1, f2, f3, f4⟩ := router (h0 := h) rfl hok (rl := h.next) (mc := 0) hp ho n 0 h1 p [] none [] (by omega) ⟨rfl, fun y hy => .inr rfl⟩ (by simp) e2 (Mine.nil _ _) ⟨rfl, fun i hi => by cases hi⟩ (e3 h (Keeps.refl hok))
    have f3 : OutOk h2 (h.next + 1) ocs (cycL p) := by
      unfold cycL
      rw [← hpn]
      rw [List.drop_zero] at f3
      exact f3
    have f1' : L32_6 a n c none 0 0 (some ⟨h.next, 0, none⟩) n 0 (n : Int) 0 h1 = _ := f1
    refine ⟨h2, oa, on, oc, f1', f4, f2.sl f4.ok f3.1.symm fun i hi => ?_⟩
    obtain ⟨a3, n3, q1, q2⟩ := f3.2 i hi
    refine ⟨a3, n3, 0, ?_, q2.ints f4.ok⟩
    have := f3.1
    rw [List.getElem?_eq_getElem (by rw [this]; exact hi)] at q1
    exact Option.some.inj q1
end
end Go.Proofs.Ytcdeeppiljcddaa.AM
