/- Specs of functions of perm: copies, cycles. Conditions: none. -/
import Derived.Test.YtcdeeppiljcddaaSp3
namespace Go.Proofs.Ytcdeeppiljcddaa.AM
open Go
section
variable {h h0 : Hp}

theorem raw_cells {ad : Addr} : ∀ {cs : List Value} {k : Nat}, (∀ i (hi : i < cs.length), h.cell (ad.add (k + i)) = some cs[i]) → h.rawCells ad k cs.length = some cs
  | [], _, _ => rfl
  | c :: cs, k, hc => by
    have h1 := hc 0 (by simp)
    simp only [Nat.add_zero, List.getElem_cons_zero] at h1
    rw [List.length_cons, Hp.rawCells, h1]
    simp only
    rw [raw_cells (cs := cs) (k := k + 1) fun i hi => by
      have := hc (i + 1) (by simpa using hi)
      rw [List.getElem_cons_succ] at this
      rw [← this]
      congr 2
      omega]
    rfl
theorem Ints.src {R : Type} {a : Option Addr} {n c : Nat} {l : List Int} (hs : Ints h a n c l) (K : List Value → Option R) : srcC h 1 n (.slice a n c) K = K (intCells l) := by
  unfold srcC
  cases a with
  | none => rw [hs.none_nil rfl]; rfl
  | some ad =>
    have e : n * 1 = (intCells l).length := by rw [intCells_length, Nat.mul_one]; exact hs.len
    simp only
    rw [e, raw_cells fun i hi => by
      rw [intCells_length] at hi
      obtain ⟨ad', v, h1, h2, h3⟩ := hs.el i hi
      cases h1
      rw [Nat.zero_add, h2, h3]
      simp [intCells]]

/-! ### slices.Clone -/
theorem clone_spec (hok : HpOk h) {a : Option Addr} {n c : Nat} {p : List Int} (hp : Ints h a n c p) (hn : n ≤ 1000000) :
    ∃ h' a2 c2, run 35 [.slice a n c] h = some (.slice a2 n c2, h') ∧ Keeps h h' ∧ Mine h' h.next a2 n c2 (intCells p) := by
  have hpn := hp.len
  rw [eq35]
  cases a with
  | none =>
    have := hp.none_nil rfl
    subst this
    have hc := hp.ok
    obtain ⟨h1, h2⟩ := hc
    subst h1
    exact ⟨h, none, 0, rfl, Keeps.refl hok, Mine.nil _ _⟩
  | some ad =>
    simp only [Option.isNone_some, cond_false, lt]
    have hk1 : Keeps h (h.alloc [] 1 []) := keeps_alloc (Keeps.refl hok) _ _ _
    have hm : Mine (h.alloc [] 1 []) h.next (some ⟨h.next, 0, none⟩) 0 0 [] := mine_alloc (Nat.le_refl _) (cs := []) rfl (by simp) 0
    rw [(hp.keeps hok hk1).src]
    by_cases h0 : n = 0
    · subst h0
      have : p = [] := List.length_eq_zero_iff.1 hpn.symm
      subst this
      refine ⟨h.alloc [] 1 [], some ⟨h.next, 0, none⟩, 0, ?_, hk1, hm⟩
      unfold growT needC
      have : decide (h.next < (h.alloc [] 1 []).base) = false := decide_eq_false (by have := hok.next; show ¬ h.next < h.base; omega)
      simp [this]
    · obtain ⟨h', r', e1, e2, e3, _⟩ := grow_mine hk1.ok (lo := h.next) (Nat.le_succ _) hm (vs := intCells p) (m := n) (bytes := 8) (one_intCells p) (by rw [intCells_length]; exact hpn.symm) (by omega) (by omega) (by omega)
      rw [e1]
      rw [Nat.zero_add] at e2 ⊢
      exact ⟨h', _, 0, rfl, e3 h hk1 (Nat.le_refl _), by simpa using e2⟩

/-! ### Cycles -/
/-- From a number on, as long as there is a next one: what is met, and what is left. -/
def goC : Nat → List Int → Int → List Int → List Int × List Int
  | 0, left, _, c => (c, left)
  | f + 1, left, x, c => if 0 ≤ atL left x then goC f (left.set x.toNat (-1)) (atL left x) (c ++ [x]) else (c, left)
def leftN (left : List Int) : Nat := left.countP fun y => decide (0 ≤ y)
def cycStep (n : Nat) (s : List Int × List (List Int)) (i : Nat) : List Int × List (List Int) :=
  ((goC (n + 1) s.1 i []).2, if (goC (n + 1) s.1 i []).1 = [] then s.2 else s.2 ++ [(goC (n + 1) s.1 i []).1])
def cycRun (n : Nat) (is : List Nat) (s : List Int × List (List Int)) : List Int × List (List Int) := is.foldl (cycStep n) s
def cycL (p : List Int) : List (List Int) := (cycRun p.length (List.range p.length) (p, [])).2

theorem leftN_set {left : List Int} {m : Nat} (hm : m < left.length) (h0 : 0 ≤ left[m]) : leftN (left.set m (-1)) + 1 = leftN left := by
  unfold leftN
  rw [List.countP_set hm]
  have h1 : 0 < left.countP fun y => decide (0 ≤ y) := List.countP_pos_iff.2 ⟨_, List.getElem_mem hm, by simpa using h0⟩
  simp [h0]
  omega
structure LeftOk (n : Nat) (left : List Int) : Prop where
  len : left.length = n
  in_ : ∀ y ∈ left, -1 ≤ y ∧ y < n
theorem LeftOk.set {n : Nat} {left : List Int} (hl : LeftOk n left) (m : Nat) : LeftOk n (left.set m (-1)) :=
  ⟨by rw [List.length_set]; exact hl.len, fun y hy => by
    rcases List.mem_or_eq_of_mem_set hy with hy | rfl
    · exact hl.in_ y hy
    · omega⟩
theorem LeftOk.le {n : Nat} {left : List Int} (hl : LeftOk n left) : leftN left ≤ n := by
  have := List.countP_le_length (p := fun y => decide (0 ≤ y)) (l := left)
  rw [hl.len] at this
  exact this
theorem atL_eq {l : List Int} {m : Nat} (hm : m < l.length) : atL l (m : Int) = l[m] := by simp [atL, hm]
theorem goC_ok {n : Nat} : ∀ (f : Nat) (left : List Int) (x : Int) (c : List Int), LeftOk n left → LeftOk n (goC f left x c).2
  | 0, left, x, c, h => h
  | f + 1, left, x, c, h => by
    unfold goC
    split
    · exact goC_ok f _ _ _ (h.set _)
    · exact h

/-- What follows the inner loop. -/
noncomputable def endIn (la : Option Addr) (ln lc : Nat) (oa : Option Addr) (on oc : Nat) (ca : Option Addr) (cn cc : Nat) (t19 t20 : Int) (h : Hp) : Option (Value × Hp) :=
  bif (!ca.isNone) then
    lt (h.alloc [(.slice ca cn cc)] 1 []) fun h_13 =>
    srcC h_13 1 1 (.slice (some ⟨h.next, 0, none⟩) 1 0) fun vs_14 =>
    growT h_13 1 24 oa on oc 1 vs_14 fun a_15 n_16 c_17 h_18 =>
    L14_7 la ln lc a_15 n_16 c_17 t19 (IntKind.i64.wrap (t20 + 1)) h_18
  else L14_7 la ln lc oa on oc t19 (IntKind.i64.wrap (t20 + 1)) h
theorem inner {lo rl : Nat} (hlo : h0.next = lo) {n lc on oc : Nat} {oa : Option Addr} {ocs : List Value} (i : Nat) :
    ∀ (f : Nat) (left : List Int) (x : Nat) (c : List Int) (h : Hp) (ca : Option Addr), leftN left < f → LeftOk n left → x < n → c.length + leftN left ≤ 1000 →
      Mine h lo (some ⟨rl, 0, none⟩) n lc (intCells left) → Mine h (rl + 1) oa on oc ocs → Mine h (rl + 1) ca c.length 0 (intCells c) → (ca.isNone = c.isEmpty) → (∀ q, oa = some ⟨q, 0, none⟩ → ca ≠ some ⟨q, 0, none⟩) → Keeps h0 h →
      ∃ h' ca', L14_11 (some ⟨rl, 0, none⟩) n lc oa on oc ca c.length 0 (x : Int) (n : Int) (i : Int) h = endIn (some ⟨rl, 0, none⟩) n lc oa on oc ca' (goC f left x c).1.length 0 (n : Int) (i : Int) h' ∧
        Mine h' lo (some ⟨rl, 0, none⟩) n lc (intCells (goC f left x c).2) ∧ Mine h' (rl + 1) oa on oc ocs ∧ Mine h' (rl + 1) ca' (goC f left x c).1.length 0 (intCells (goC f left x c).1) ∧ (ca'.isNone = (goC f left x c).1.isEmpty) ∧
        (∀ q, oa = some ⟨q, 0, none⟩ → ca' ≠ some ⟨q, 0, none⟩) ∧ Keeps h0 h' ∧ Later (rl + 1) h h' := by
  intro f
  induction f with
  | zero => intro left x c h ca h1; omega
  | succ f ih =>
    intro left x c h ca hf hL hx hc hml hmo hmc hnc hd hk
    have hlen := hL.len
    have hxl : x < left.length := by omega
    have hat : atL left (x : Int) = left[x] := atL_eq hxl
    have hin := hL.in_ _ (List.getElem_mem hxl)
    have hcell : (intCells left)[x]? = some (.int .i64 left[x]) := by simp [intCells, hxl]
    rw [L14_11_eq, hml.at (i := x) (by rw [intCells_length]; exact hxl), hml.ldI hcell]
    unfold goC
    rw [hat]
    by_cases h1 : 0 ≤ left[x]
    · rw [decide_eq_true h1, cond_true, if_pos h1]
      obtain ⟨h1', r', e1, e2, e3, e4, e5, e6⟩ := append1 hk.ok (lo := rl + 1) (by have := (hml.lt hk.ok rfl).2; omega) hmc (bytes := 8) (v := .int .i64 (x : Int)) rfl (by omega) (by omega)
      rw [e1]
      have hrl : ca ≠ some ⟨rl, 0, none⟩ := fun he => by have := (hmc.lt hk.ok he).1; omega
      have hml1 : Mine h1' lo (some ⟨rl, 0, none⟩) n lc (intCells left) := hml.frame fun q b hq hb => e4 q b hb (by cases hq; exact hrl)
      have hmo1 : Mine h1' (rl + 1) oa on oc ocs := hmo.frame fun q b hq hb => e4 q b hb (hd q hq)
      have hk1 : Keeps h0 h1' := e3 _ hk (by have := (hml.lt hk.ok rfl).1; omega)
      rw [hml1.at (i := x) (by rw [intCells_length]; exact hxl), hml1.ldI hcell, hml1.at (i := x) (by rw [intCells_length]; exact hxl)]
      obtain ⟨h2', s1, s2, s3, s4, s5⟩ := hml1.st (i := x) (by rw [intCells_length]; exact hxl) (v := .int .i64 (-1)) rfl
      rw [s1]
      have hk2 : Keeps h0 h2' := s3 _ hk1 (by omega)
      have hset : (intCells left).set x (.int .i64 (-1)) = intCells (left.set x (-1)) := by simp [intCells, List.map_set]
      rw [hset] at s2
      have hmo2 : Mine h2' (rl + 1) oa on oc ocs := hmo1.frame fun q b hq hb => s4 rl q b rfl hb (by have := (hmo1.lt hk1.ok hq).1; omega)
      have hmc2 : Mine h2' (rl + 1) (some ⟨r', 0, none⟩) (c ++ [(x : Int)]).length 0 (intCells (c ++ [(x : Int)])) := by
        rw [List.length_append, intCells_append]
        exact e2.frame fun q b hq hb => s4 rl q b rfl hb (by have := (e2.lt hk1.ok hq).1; omega)
      obtain ⟨y, hy⟩ : ∃ y : Nat, left[x] = y := ⟨left[x].toNat, by omega⟩
      have hcnt := leftN_set hxl h1
      have hnext := hml.lt hk.ok rfl
      obtain ⟨h3, ca3, g1, g2, g3, g4, g5, g6, g7, g8⟩ := ih (left.set x (-1)) y (c ++ [(x : Int)]) h2' (some ⟨r', 0, none⟩) (by omega) (hL.set x) (by omega) (by rw [List.length_append]; simp; omega) s2 hmo2 hmc2 (by simp) (fun q hq he => by
        have := (hmo.lt hk.ok hq).2
        cases he
        omega) hk2
      rw [hy, Int.toNat_natCast]
      refine ⟨h3, ca3, ?_, g2, g3, g4, g5, g6, g7, ?_⟩
      · rw [List.length_append] at g1
        exact g1
      · refine Later.trans (Later.trans (e6 _) ?_) g8
        intro q b hq hb
        exact ⟨b, s4 rl q b rfl hb (by omega), rfl, rfl⟩
    · rw [decide_eq_false h1, cond_false, if_neg h1]
      exact ⟨h, ca, rfl, hml, hmo, hmc, hnc, hd, hk, Later.refl _ _⟩

/-- The cycles so far, in memory. -/
def OutOk (h : Hp) (lo : Nat) (ocs : List Value) (outs : List (List Int)) : Prop :=
  ocs.length = outs.length ∧ ∀ i (hi : i < outs.length), ∃ a n, ocs[i]? = some (.slice a n 0) ∧ Above h lo a n (intCells outs[i])
theorem OutOk.later {lo : Nat} {ocs : List Value} {outs : List (List Int)} {h' : Hp} (hl : Later lo h h') (ho : OutOk h lo ocs outs) : OutOk h' lo ocs outs :=
  ⟨ho.1, fun i hi => by
    obtain ⟨a, n, h1, h2⟩ := ho.2 i hi
    exact ⟨a, n, h1, h2.later hl⟩⟩
theorem outer {lo rl : Nat} (hlo : h0.next = lo) {n lc : Nat} (hn : n ≤ 12) :
    ∀ (j k : Nat) (h : Hp) (left : List Int) (outs : List (List Int)) (oa : Option Addr) (ocs : List Value), j + k = n → LeftOk n left → outs.length ≤ k →
      Mine h lo (some ⟨rl, 0, none⟩) n lc (intCells left) → Mine h (rl + 1) oa outs.length 0 ocs → OutOk h (rl + 1) ocs outs → Keeps h0 h →
      ∃ h' oa' on' oc' ocs' , L14_7 (some ⟨rl, 0, none⟩) n lc oa outs.length 0 (n : Int) (k : Int) h = some (.tuple #[.slice oa' on' oc', .int .i64 0], h') ∧
        Mine h' (rl + 1) oa' on' oc' ocs' ∧ OutOk h' (rl + 1) ocs' (cycRun n ((List.range n).drop k) (left, outs)).2 ∧ Keeps h0 h' := by
  intro j
  induction j with
  | zero =>
    intro k h left outs oa ocs hk hL ho hml hmo hoo hkp
    refine ⟨h, oa, _, 0, ocs, ?_, hmo, ?_, hkp⟩
    · rw [L14_7_eq, decide_eq_false (by omega), cond_false]
    · rw [List.drop_of_length_le (by simp; omega)]
      exact hoo
  | succ j ih =>
    intro k h left outs oa ocs hk hL ho hml hmo hoo hkp
    have hd : (List.range n).drop k = k :: (List.range n).drop (k + 1) := by
      rw [List.drop_eq_getElem_cons (by simp; omega)]
      simp
    rw [hd, L14_7_eq, decide_eq_true (by omega), cond_true]
    have hle := hL.le
    obtain ⟨h1, ca, e1, e2, e3, e4, e5, e6, e7, e8⟩ := inner hlo (rl := rl) (n := n) (lc := lc) (oa := oa) (on := outs.length) (oc := 0) (ocs := ocs) k (n + 1) left k [] h none (by omega) hL (by omega) (by simp; omega) hml hmo (Mine.nil _ _) rfl (fun q hq => by simp) hkp
    have e1' : L14_11 (some ⟨rl, 0, none⟩) n lc oa outs.length 0 none 0 0 (k : Int) (n : Int) (k : Int) h = _ := e1
    rw [e1']
    have hoo1 := hoo.later e8
    unfold cycRun
    rw [List.foldl_cons]
    generalize hg : goC (n + 1) left (k : Int) [] = g at *
    have hst : cycStep n (left, outs) k = (g.2, if g.1 = [] then outs else outs ++ [g.1]) := by
      show ((goC (n + 1) left (k : Int) []).2, _) = _
      rw [hg]
    rw [hst]
    have hL2 : LeftOk n g.2 := hg ▸ goC_ok (n + 1) left (k : Int) [] hL
    unfold endIn
    by_cases hc : g.1 = []
    · have : ca.isNone = true := by rw [e5, hc]; rfl
      rw [this, Bool.not_true, cond_false, wrap_nat (by omega), if_pos hc]
      exact ih (k + 1) h1 g.2 outs oa ocs (by omega) hL2 (by omega) e2 e3 hoo1 e7
    · have : ca.isNone = false := by
        rw [e5]
        cases hgg : g.1 with
        | nil => exact absurd hgg hc
        | cons x l => rfl
      rw [this, Bool.not_false, cond_true, if_neg hc]
      obtain ⟨h2, r2, f1, f2, f3, f4, f5, f6⟩ := append1 e7.ok (lo := rl + 1) (by have := (e2.lt e7.ok rfl).2; omega) e3 (bytes := 24) (v := .slice ca g.1.length 0) rfl (by omega) (by omega)
      rw [f1, wrap_nat (by omega)]
      have hml2 : Mine h2 lo (some ⟨rl, 0, none⟩) n lc (intCells g.2) := e2.frame fun q b hq hb => f4 q b hb (fun he => by
        have := (e3.lt e7.ok he).1
        cases hq
        omega)
      have hl2 : (outs ++ [g.1]).length = outs.length + 1 := by simp
      have := ih (k + 1) h2 g.2 (outs ++ [g.1]) (some ⟨r2, 0, none⟩) (ocs ++ [.slice ca g.1.length 0]) (by omega) hL2 (by omega) hml2 (by rw [hl2]; exact f2) ⟨by simp [hoo1.1], fun i hi => by
        rw [hl2] at hi
        by_cases hi2 : i < outs.length
        · obtain ⟨a, m, g1, g2⟩ := hoo1.2 i hi2
          refine ⟨a, m, ?_, ?_⟩
          · rw [List.getElem?_append_left (by rw [hoo1.1]; exact hi2)]; exact g1
          · rw [List.getElem_append_left hi2]; exact g2.later (f6 _)
        · have : i = outs.length := by omega
          subst this
          refine ⟨ca, g.1.length, ?_, ?_⟩
          · rw [← hoo1.1]; simp
          · rw [List.getElem_append_right (Nat.le_refl _)]
            simpa using e4.above.later (f6 _)⟩ (f3 _ e7 (by have := (e2.lt e7.ok rfl).1; omega))
      rw [hl2] at this
      exact this

/-- A call that gives a list of lists, and an error's number. -/
def GivesL (o : Option (Value × Hp)) (h : Hp) (l : List (List Int)) (e : Int) : Prop :=
  ∃ h' a n c, o = some (.tuple #[.slice a n c, .int .i64 e], h') ∧ Keeps h h' ∧ Lists h' a n c l
def cyclesL (p : List Int) : List (List Int) := if isOrd p = true then cycL p else []
theorem cycles_spec (hok : HpOk h) {a : Option Addr} {n c : Nat} {p : List Int} (hp : Ints h a n c p) : GivesL (run 14 [.slice a n c] h) h (cyclesL p) (ordE p) := by
  rw [eq14, check_spec hp, runC_some, asInt_mk]
  have hpn := hp.len
  unfold cyclesL ordE
  cases ho : isOrd p with
  | false =>
    simp only [Bool.false_eq_true, if_false]
    rw [decide_eq_false (by omega), Bool.not_false, cond_true]
    exact ⟨h, none, 0, 0, rfl, Keeps.refl hok, Sl.nil _ _⟩
  | true =>
    simp only [if_true, decide_true, Bool.not_true, cond_false]
    have hle := ord_le ho
    obtain ⟨h1, a2, c2, e1, e2, e3⟩ := clone_spec hok hp (by omega)
    rw [e1, runC_some, asSl_mk]
    rcases e3 with ⟨g1, g2, g3, g4⟩ | ⟨r, g1, g2⟩
    · have hp0 : p = [] := by
        cases p with
        | nil => rfl
        | cons x l => simp [intCells] at g4
      subst hp0
      rw [g2]
      refine ⟨h1, none, 0, 0, ?_, e2, Sl.nil _ _⟩
      rw [L14_7_eq]; rfl
    · have hm : Mine h1 h.next (some ⟨r, 0, none⟩) n c2 (intCells p) := .inr ⟨r, rfl, g2⟩
      subst g1
      have hL : LeftOk n p := ⟨hpn.symm, fun y hy => by have := (ord_mem ho).1 hy; omega⟩
      obtain ⟨h2, oa, on, oc, ocs, f1, f2, f3, f4⟩ := outer (h0 := h) rfl (rl := r) (n := n) (lc := c2) (by omega) n 0 h1 p [] none [] (by omega) hL (by simp) hm (Mine.nil _ _) ⟨rfl, fun i hi => by cases hi⟩ e2
      have f3 : OutOk h2 (r + 1) ocs (cycL p) := by
        unfold cycL
        rw [← hpn]
        rw [List.drop_zero] at f3
        exact f3
      have f1' : L14_7 (some ⟨r, 0, none⟩) n c2 none 0 0 (n : Int) 0 h1 = _ := f1
      refine ⟨h2, oa, on, oc, f1', f4, f2.sl f4.ok f3.1.symm fun i hi => ?_⟩
      obtain ⟨a3, n3, q1, q2⟩ := f3.2 i hi
      refine ⟨a3, n3, 0, ?_, q2.ints f4.ok⟩
      have := f3.1
      rw [List.getElem?_eq_getElem (by rw [this]; exact hi)] at q1
      exact Option.some.inj q1
end
end Go.Proofs.Ytcdeeppiljcddaa.AM
