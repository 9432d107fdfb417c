/- The law PermTurns, walked. Conditions: none. -/
import Derived.Test.YtcdeeppiljcddaaSp7
namespace Go.Proofs.Ytcdeeppiljcddaa.AM
open Go
section
variable {h h0 : Hp}
/-- A copy, appended to nil. -/
theorem copy_nil (hok : HpOk h) {a : Option Addr} {n c : Nat} {p : List Int} (hp : Ints h a n c p) (hn : n ≤ 1000000) :
    ∃ h' a2 c2, (∀ (R : Type) (K : Option Addr → Nat → Nat → Hp → Option R), (srcC h 1 n (.slice a n c) fun vs => growT h 1 8 none 0 0 n vs K) = K a2 n c2 h') ∧ Keeps h h' ∧ Mine h' h.next a2 n c2 (intCells p) := by
  have hpn := hp.len
  by_cases h0 : n = 0
  · subst h0
    have : p = [] := List.length_eq_zero_iff.1 hpn.symm
    subst this
    refine ⟨h, none, 0, fun R K => ?_, Keeps.refl hok, Mine.nil _ _⟩
    rw [hp.src]
    rfl
  · obtain ⟨h', r', e1, e2, e3, _⟩ := grow_mine hok (lo := h.next) (Nat.le_refl _) (Mine.nil h h.next) (vs := intCells p) (m := n) (bytes := 8) (one_intCells p) (by rw [intCells_length]; exact hpn.symm) (by omega) (by omega) (by omega)
    rw [Nat.zero_add] at e2
    refine ⟨h', _, 0, fun R K => ?_, e3 h (Keeps.refl hok) (Nat.le_refl _), by simpa using e2⟩
    rw [hp.src, e1, Nat.zero_add]
/-- Each number of a list of the call's own, one more. -/
theorem inc_loop {F : Int → Hp → Option (Value × Hp)} {E : Hp → Option (Value × Hp)} {a : Option Addr} {n c : Nat}
    (hF : ∀ k h, F k h = (bif (decide (k < (n : Int))) then
      atC a n 1 k fun d_1 => ldI h .i64 d_1 fun x_2 => atC a n 1 k fun d_3 => h.stC d_3 [(.int .i64 (IntKind.i64.wrap (x_2 + 1)))] fun h_4 => F (IntKind.i64.wrap (k + 1)) h_4
      else E h)) {lo : Nat} (hlo : h0.next ≤ lo) (hn : n ≤ 1000000) :
    ∀ (j k : Nat) (h : Hp) (l : List Int), j + k = n → Mine h lo a n c (intCells l) → Keeps h0 h →
      ∃ h', F (k : Int) h = E h' ∧ Keeps h0 h' ∧ (∀ q b, (∀ r, a = some ⟨r, 0, none⟩ → r < q) → h.new q = some b → h'.new q = some b) := by
  intro j
  induction j with
  | zero =>
    intro k h l hk hm hkp
    exact ⟨h, by rw [hF, decide_eq_false (by omega), cond_false], hkp, fun _ _ _ h => h⟩
  | succ j ih =>
    intro k h l hk hm hkp
    have hl := hm.len
    have hkl : k < (intCells l).length := by omega
    have hkl' : k < l.length := by rw [intCells_length] at hkl; exact hkl
    have hc : (intCells l)[k]? = some (.int .i64 l[k]) := by simp [intCells, hkl']
    obtain ⟨h1, s1, s2, s3, s4, _⟩ := hm.st (i := k) hkl (v := .int .i64 (IntKind.i64.wrap (l[k] + 1))) rfl
    rw [hF, decide_eq_true (by omega), cond_true, hm.at hkl, hm.ldI hc, hm.at hkl, s1, wrap_nat (by omega)]
    have : (intCells l).set k (.int .i64 (IntKind.i64.wrap (l[k] + 1))) = intCells (l.set k (IntKind.i64.wrap (l[k] + 1))) := by simp [intCells, List.map_set]
    rw [this] at s2
    obtain ⟨h2, t1, t2, t3⟩ := ih (k + 1) h1 _ (by omega) s2 (s3 _ hkp hlo)
    refine ⟨h2, t1, t2, fun q b hq hb => t3 q b hq ?_⟩
    rcases hm with ⟨rfl, _, _, h6⟩ | ⟨r, rfl, hm⟩
    · rw [h6] at hkl; cases hkl
    · exact s4 r q b rfl hb (hq r rfl)
/-- A cell of a list that is written out. -/
theorem Mine.cellAt {lo r : Nat} {n c : Nat} {cs : List Value} (hm : Mine h lo (some ⟨r, 0, none⟩) n c cs) (i : Nat) : h.cell (adr (some ⟨r, 0, none⟩) (i : Int)) = cs[i]? := by
  rcases hm with ⟨h1, _⟩ | ⟨r', h1, hm⟩
  · cases h1
  · cases h1
    rw [adr_mine]
    exact hm.cell i
theorem few_lit (hok : HpOk h) {cs : List Value} {ms : List Nat} (h1 : oneCells cs = true) (hl : ms.length = cs.length) (hE : ∀ i (hi : i < ms.length), ∃ a c, cs[i]'(hl ▸ hi) = .slice a ms[i] c) (hn : cs.length ≤ 1000) :
    run 12 [.slice (some ⟨h.next, 0, none⟩) cs.length 0] (h.alloc cs 1 []) = some (.bool (ms.all fun m => decide (m ≤ 100)), h.alloc cs 1 []) :=
  few_spec (lit_sl (E := LenE) hok h1 hl fun i hi => hE i hi) hn

theorem turns_end {hw : Hp} {p : List Int} {pa wa ca xa sa : Option Addr} {pn pc wn wc cn cc xn xc sn sc rb : Nat} {cl xl sl : List Int} (hokw : HpOk hw) (hp : Ints hw pa pn pc p) (hwas : Ints hw wa wn wc p) (hpn : pn ≤ 1000)
    {l1 l2 l3 : Nat} (hl1 : hw.next ≤ l1) (hl12 : l1 ≤ l2) (hl23 : l2 ≤ l3) (hk : Keeps hw h) (mc : Mine h l1 ca cn cc (intCells cl)) (mx : Mine h l2 xa xn xc (intCells xl)) (ms : Mine h l3 sa sn sc (intCells sl))
    (oc : ∀ r, ca = some ⟨r, 0, none⟩ → r < l2) (ox : ∀ r, xa = some ⟨r, 0, none⟩ → r < l3) (h3b : l3 ≤ rb)
    (hn : cn ≤ 1000 ∧ xn ≤ 1000 ∧ sn ≤ 1000) (ml : Mine h rb (some ⟨rb, 0, none⟩) 3 0 [.slice ca cn cc, .slice xa xn xc, .slice sa sn sc]) :
    ∃ h', L5_16 pa pn pc true wa wn wc (some ⟨rb, 0, none⟩) 3 0 3 0 h = some (.bool true, h') := by
  have step : ∀ (i : Nat) (z : Option Addr) (zn zc : Nat) (h : Hp), i < 3 → Mine h rb (some ⟨rb, 0, none⟩) 3 0 [.slice ca cn cc, .slice xa xn xc, .slice sa sn sc] → [Value.slice ca cn cc, .slice xa xn xc, .slice sa sn sc][i]? = some (.slice z zn zc) →
      L5_16 pa pn pc true wa wn wc (some ⟨rb, 0, none⟩) 3 0 3 (i : Int) h = L5_19 pa pn pc true wa wn wc z zn zc (some ⟨rb, 0, none⟩) 3 0 3 (i : Int) (zn : Int) 0 h := by
    intro i z zn zc h hi ml hz
    rw [L5_16_eq, decide_eq_true (by omega), cond_true, ml.at (by simpa using hi), ldSl_of ((ml.cellAt i).trans hz)]
  have s0 := step 0 ca cn cc h (by omega) ml rfl
  have s0' : L5_16 pa pn pc true wa wn wc (some ⟨rb, 0, none⟩) 3 0 3 0 h = _ := s0
  rw [s0']
  obtain ⟨h1, a1, a2, a3⟩ := inc_loop (fun k h => L5_19_eq pa pn pc true wa wn wc ca cn cc (some ⟨rb, 0, none⟩) 3 0 3 ((0 : Nat) : Int) (cn : Int) k h) hl1 (by omega) cn 0 h cl (by omega) mc hk
  have a1' : L5_19 pa pn pc true wa wn wc ca cn cc (some ⟨rb, 0, none⟩) 3 0 3 ((0 : Nat) : Int) (cn : Int) 0 h = _ := a1
  rw [a1', wrap_nat (by omega)]
  have ml1 := ml.frame (h' := h1) fun q b hq hb => a3 q b (fun r hr => by cases hq; have := oc r hr; omega) hb
  have mx1 := mx.frame (h' := h1) fun q b hq hb => a3 q b (fun r hr => by have := oc r hr; have := (mx.lt hk.ok hq).1; omega) hb
  have ms1 := ms.frame (h' := h1) fun q b hq hb => a3 q b (fun r hr => by have := oc r hr; have := (ms.lt hk.ok hq).1; omega) hb
  rw [step 1 xa xn xc h1 (by omega) ml1 rfl]
  obtain ⟨h2, b1, b2, b3⟩ := inc_loop (fun k h => L5_19_eq pa pn pc true wa wn wc xa xn xc (some ⟨rb, 0, none⟩) 3 0 3 ((1 : Nat) : Int) (xn : Int) k h) (Nat.le_trans hl1 hl12) (by omega) xn 0 h1 xl (by omega) mx1 a2
  have b1' : L5_19 pa pn pc true wa wn wc xa xn xc (some ⟨rb, 0, none⟩) 3 0 3 ((1 : Nat) : Int) (xn : Int) 0 h1 = _ := b1
  rw [b1', wrap_nat (by omega)]
  have ml2 := ml1.frame (h' := h2) fun q b hq hb => b3 q b (fun r hr => by cases hq; have := ox r hr; omega) hb
  have ms2 := ms1.frame (h' := h2) fun q b hq hb => b3 q b (fun r hr => by have := ox r hr; have := (ms1.lt a2.ok hq).1; omega) hb
  rw [step 2 sa sn sc h2 (by omega) ml2 rfl]
  obtain ⟨h3, c1, c2, c3⟩ := inc_loop (fun k h => L5_19_eq pa pn pc true wa wn wc sa sn sc (some ⟨rb, 0, none⟩) 3 0 3 ((2 : Nat) : Int) (sn : Int) k h) (Nat.le_trans hl1 (Nat.le_trans hl12 hl23)) (by omega) sn 0 h2 sl (by omega) ms2 b2
  have c1' : L5_19 pa pn pc true wa wn wc sa sn sc (some ⟨rb, 0, none⟩) 3 0 3 ((2 : Nat) : Int) (sn : Int) 0 h2 = _ := c1
  rw [c1', wrap_nat (by omega), L5_16_eq, decide_eq_false (by omega), cond_false, cond_true, equal_spec (hp.keeps hokw c2) (hwas.keeps hokw c2) (by omega), runC_some, asBool_mk]
  simp only [decide_true]
  exact ⟨h3, rfl⟩
theorem pickL_length (p l : List Int) : (pickL p l).length = p.length := by simp [pickL]
theorem turnL_length (l p : List Int) (hp : p.length ≤ 100) : (turnL l p).length ≤ 100 := by
  unfold turnL
  split
  · rw [pickL_length]; exact hp
  · simp
theorem afterL_length (p q : List Int) (hq : q.length ≤ 100) : (afterL p q).length ≤ 100 := by
  unfold afterL
  split
  · rw [pickL_length]; exact hq
  · simp
theorem inverseL_length (p : List Int) (hp : p.length ≤ 100) : (inverseL p).length ≤ 100 := by
  unfold inverseL
  split
  · rw [invL, List.length_map, upto_length]; exact hp
  · simp
theorem plainL_length (n : Int) : (plainL n).length ≤ 100 := by
  unfold plainL
  split
  · rw [upto_length]; omega
  · simp
theorem turns_spec (hok : HpOk h) {pa qa la : Option Addr} {pn pc qn qc ln lc : Nat} {p q l : List Int} (hp : Ints h pa pn pc p) (hq : Ints h qa qn qc q) (hl : Ints h la ln lc l) (n : Int) :
    ∃ h', run 5 [.slice pa pn pc, .slice qa qn qc, .slice la ln lc, .int .i64 n] h = some (.bool true, h') := by
  rw [eq5]
  have hpn := hp.len
  have hqn := hq.len
  have hln := hl.len
  obtain ⟨h1, e1, k1⟩ := live_spec hok
  rw [e1, runC_some, asBool_mk]
  simp only [lt]
  have e2 : run 12 [.slice (some ⟨h1.next, 0, none⟩) 3 0] (h1.alloc [.slice pa pn pc, .slice qa qn qc, .slice la ln lc] 1 []) = _ := few_lit k1.ok (cs := [.slice pa pn pc, .slice qa qn qc, .slice la ln lc]) (ms := [pn, qn, ln]) rfl rfl (fun i hi => by
    match i, hi with
    | 0, _ => exact ⟨_, _, rfl⟩
    | 1, _ => exact ⟨_, _, rfl⟩
    | 2, _ => exact ⟨_, _, rfl⟩) (by simp)
  rw [e2, runC_some, asBool_mk]
  have k2 : Keeps h (h1.alloc [.slice pa pn pc, .slice qa qn qc, .slice la ln lc] 1 []) := keeps_alloc k1 _ _ _
  generalize h1.alloc [.slice pa pn pc, .slice qa qn qc, .slice la ln lc] 1 [] = h2 at *
  cases hf : [pn, qn, ln].all fun m => decide (m ≤ 100) with
  | false => exact ⟨h2, rfl⟩
  | true =>
    simp at hf
    obtain ⟨f1, f2, f3⟩ := hf
    rw [Bool.not_true, cond_false]
    obtain ⟨hw, wa, wc, e3, k3, mw⟩ := copy_nil k2.ok (hp.keeps hok k2) (by omega)
    rw [e3]
    have kw := k2.trans k3
    -- the calls
    obtain ⟨h4, a4, n4, c4, k4, m4, e4⟩ := runC_gives (R := Value × Hp) (plain_spec kw.ok n)
    rw [e4 (fun a n c x h => _)]
    obtain ⟨h5, a5, n5, c5, k5, m5, e5⟩ := runC_gives (R := Value × Hp) (rplain_spec k4.ok n)
    rw [e5 (fun a n c x h => _)]
    have kw5 := k4.trans k5
    obtain ⟨h6, a6, n6, c6, k6, m6, e6⟩ := runC_gives (R := Value × Hp) (inverse_spec k5.ok (hp.keeps hok (kw.trans kw5)))
    rw [e6 (fun a n c x h => _)]
    have kw6 := kw5.trans k6
    obtain ⟨h7, a7, n7, c7, k7, m7, e7⟩ := runC_gives (R := Value × Hp) (rinverse_spec k6.ok (hp.keeps hok (kw.trans kw6)))
    rw [e7 (fun a n c x h => _)]
    have kw7 := kw6.trans k7
    obtain ⟨h8, a8, n8, c8, k8, m8, e8⟩ := runC_gives (R := Value × Hp) (after_spec k7.ok (hp.keeps hok (kw.trans kw7)) (hq.keeps hok (kw.trans kw7)))
    rw [e8 (fun a n c x h => _)]
    have kw8 := kw7.trans k8
    obtain ⟨h9, a9, n9, c9, k9, m9, e9⟩ := runC_gives (R := Value × Hp) (rafter_spec k8.ok (hp.keeps hok (kw.trans kw8)) (hq.keeps hok (kw.trans kw8)))
    rw [e9 (fun a n c x h => _)]
    have kw9 := kw8.trans k9
    obtain ⟨ha, aa, na, ca, ka, ma, ea⟩ := runC_gives (R := Value × Hp) (turn_spec k9.ok (hl.keeps hok (kw.trans kw9)) (hp.keeps hok (kw.trans kw9)))
    rw [ea (fun a n c x h => _)]
    have kwa := kw9.trans ka
    obtain ⟨hb, ab, nb, cb, kb, mb, eb⟩ := runC_gives (R := Value × Hp) (rturn_spec ka.ok (hl.keeps hok (kw.trans kwa)) (hp.keeps hok (kw.trans kwa)))
    rw [eb (fun a n c x h => _)]
    have kwb := kwa.trans kb
    have kab := ka.trans kb
    have k9b := k9.trans kab
    have k8b := k8.trans k9b
    have k7b := k7.trans k8b
    have k6b := k6.trans k7b
    have k5b := k5.trans k6b
    have n4l := m4.len
    have n6l := m6.len
    have n8l := m8.len
    have nal := ma.len
    rw [intCells_length] at n4l n6l n8l nal
    have b4 := plainL_length n
    have b6 := inverseL_length p (by omega)
    have b8 := afterL_length p q (by omega)
    have ba := turnL_length l p (by omega)
    rw [equal_spec ((m4.keeps k4.ok k5b).ints kb.ok) ((m5.keeps k5.ok k6b).ints kb.ok) (by omega), runC_some, asBool_mk]
    simp only [decide_true, Bool.not_true, cond_false]
    rw [equal_spec ((m6.keeps k6.ok k7b).ints kb.ok) ((m7.keeps k7.ok k8b).ints kb.ok) (by omega), runC_some, asBool_mk]
    simp only [decide_true, Bool.not_true, cond_false]
    rw [equal_spec ((m8.keeps k8.ok k9b).ints kb.ok) ((m9.keeps k9.ok kab).ints kb.ok) (by omega), runC_some, asBool_mk]
    simp only [decide_true, Bool.not_true, cond_false]
    rw [equal_spec ((ma.keeps ka.ok kb).ints kb.ok) (mb.ints kb.ok) (by omega), runC_some, asBool_mk]
    simp only [decide_true, Bool.not_true, cond_false]
    have hpb := hp.keeps hok (kw.trans kwb)
    rw [check_spec hpb, runC_some, asInt_mk, rcheck_spec hpb, runC_some, asInt_mk]
    simp only [decide_true, Bool.not_true, cond_false]
    have kl : Keeps hb (hb.alloc [.slice a6 n6 c6, .slice a8 n8 c8, .slice aa na ca] 1 []) := keeps_one kb.ok _ 1
    have ml : Mine (hb.alloc [.slice a6 n6 c6, .slice a8 n8 c8, .slice aa na ca] 1 []) hb.next (some ⟨hb.next, 0, none⟩) 3 0 [.slice a6 n6 c6, .slice a8 n8 c8, .slice aa na ca] := mine_alloc (Nat.le_refl hb.next) (cs := [.slice a6 n6 c6, .slice a8 n8 c8, .slice aa na ca]) rfl (by simp) 0
    have m6' := (m6.keeps k6.ok k7b).keeps kb.ok kl
    have m8' := (m8.keeps k8.ok k9b).keeps kb.ok kl
    have ma' := (ma.keeps ka.ok kb).keeps kb.ok kl
    generalize hb.alloc [.slice a6 n6 c6, .slice a8 n8 c8, .slice aa na ca] 1 [] = hz at *
    exact turns_end (hw := hw) kw.ok (hp.keeps hok kw) (mw.ints kw.ok) (by omega) (l1 := h5.next) (l2 := h7.next) (l3 := h9.next) (rb := hb.next) kw5.next (by have := k6.next; have := k7.next; omega) (by have := k8.next; have := k9.next; omega) (kwb.trans kl) m6' m8' ma'
      (fun r hr => by have := (m6.lt k6.ok hr).2; have := k7.next; omega) (fun r hr => by have := (m8.lt k8.ok hr).2; have := k9.next; omega) (by have := kab.next; omega) ⟨by omega, by omega, by omega⟩ ml
end
end Go.Proofs.Ytcdeeppiljcddaa.AM
