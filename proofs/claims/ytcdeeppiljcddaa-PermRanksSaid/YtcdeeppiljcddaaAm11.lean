/- AM, the eleventh part: elements, parts of slices, append. Conditions: none. -/
import Derived.Test.YtcdeeppiljcddaaAm10
import Derived.Deep.Upon
namespace Go.Proofs.Ytcdeeppiljcddaa.AM
open Go Go.RowKit
set_option linter.unusedSectionVars false
set_option linter.unusedSimpArgs false
set_option linter.unusedVariables false

section
variable {B : Nat} {W : World} {ρ : Places} {h h' : Hp} {w : World} {P : Program} {R : Type} {r : R}

/-- A slice with elements: where they lie. -/
theorem rel_slice_addr {ad : Addr} {n c : Nat} {v : Value} (hr : VRel B ρ (.slice (some ad) n c) v) (hn : 0 < n) : ∃ ad' c', v = .slice (some ad') n c' ∧ ARel B ρ ad ad' := by
  cases hr with
  | slOld h => exact ⟨_, _, rfl, .old h⟩
  | slNew h _ _ => exact ⟨_, _, rfl, .new h⟩
  | slEmpty h => omega

theorem idxC_some {a : Option Addr} {n s : Nat} {i : Int} {K : Value → Option R} (hk : idxC a n s i K = some r) :
    ∃ ad, a = some ad ∧ 0 ≤ i ∧ i < (n : Int) ∧ K (.pointer (some (ad.add (i.toNat * s)))) = some r := by
  unfold idxC at hk
  obtain ⟨hb, hk⟩ := needC_some hk
  simp only [Bool.and_eq_true, decide_eq_true_eq] at hb
  split at hk
  · exact ⟨_, rfl, hb.1, hb.2, hk⟩
  · cases hk

theorem run_indexAt_slice {t e : TypeId} {i : TypeInfo} (hu : P.underlying t = some (.slice e)) (hi : P.info? e = some i) (ad : Addr) (n c : Nat) (k : IntKind) (j : Int) (h0 : 0 ≤ j) (h1 : j < (n : Int)) (w : World) :
    (Instr.indexAt t (.slice (some ad) n c) (.int k j)).run P w = .ok (.pointer (some (ad.add (j.toNat * i.size)))) w := by
  simp [Instr.indexAt, asIntOf, run_underlying hu, sizeOf, typeInfo, hi, h0, h1]
theorem run_indexAt_array {t e : TypeId} {i : TypeInfo} {n : Nat} (hu : P.underlying t = some (.array n e)) (hi : P.info? e = some i) (ad : Addr) (k : IntKind) (j : Int) (h0 : 0 ≤ j) (h1 : j < (n : Int)) (w : World) :
    (Instr.indexAt t (.pointer (some ad)) (.int k j)).run P w = .ok (.pointer (some (ad.add (j.toNat * i.size)))) w := by
  simp [Instr.indexAt, asIntOf, run_underlying hu, sizeOf, typeInfo, hi, h0, h1, Instr.sureAddr]

/-- A bound of a slice expression, on both sides. -/
def Bnd (o : Option Value) (i : Option Int) : Prop := (o = none ∧ i = none) ∨ ∃ k z, o = some (.int k z) ∧ i = some z
theorem run_cut {t e : TypeId} {i : TypeInfo} (hu : P.underlying t = some (.slice e)) (hi : P.info? e = some i) (a : Option Addr) (n c : Nat) {lo' hi' : Option Value} {lo hh : Option Int} (hl : Bnd lo' lo) (hh' : Bnd hi' hh)
    (h1 : 0 ≤ lo.getD 0) (h2 : lo.getD 0 ≤ hh.getD n) (h3 : hh.getD n ≤ c) (hnc : n ≤ c) (w : World) :
    (Instr.sliceAt t (.slice a n c) lo' hi' none).run P w = .ok (.slice (if c = (lo.getD 0).toNat then a else a.map (·.add ((lo.getD 0).toNat * i.size))) ((hh.getD n).toNat - (lo.getD 0).toNat) (c - (lo.getD 0).toNat)) w := by
  rcases hl with ⟨rfl, rfl⟩ | ⟨k, z, rfl, rfl⟩ <;> rcases hh' with ⟨rfl, rfl⟩ | ⟨k', z', rfl, rfl⟩
  · simp [Instr.sliceAt, run_underlying hu, Instr.slice, Instr.sliceBounds, sizeOf, typeInfo, hi]
  · have e1 : 0 ≤ z' := by simpa using h2
    have e2 : z' ≤ (c : Int) := by simpa using h3
    simp [Instr.sliceAt, run_underlying hu, Instr.slice, Instr.sliceBounds, Instr.sliceBound, asIntOf, sizeOf, typeInfo, hi, e1, e2]
  · have e1 : 0 ≤ z := by simpa using h1
    have e2 : z ≤ (n : Int) := by simpa using h2
    simp [Instr.sliceAt, run_underlying hu, Instr.slice, Instr.sliceBounds, Instr.sliceBound, asIntOf, sizeOf, typeInfo, hi, e1, e2]
  · have e1 : 0 ≤ z := by simpa using h1
    have e2 : z ≤ z' := by simpa using h2
    have e3 : z' ≤ (c : Int) := by simpa using h3
    have e4 : 0 ≤ z' := by omega
    have e5 : z ≤ (z'.toNat : Int) := by omega
    have e6 : ¬ max z' 0 < z := by omega
    simp [Instr.sliceAt, run_underlying hu, Instr.slice, Instr.sliceBounds, Instr.sliceBound, asIntOf, sizeOf, typeInfo, hi, e1, e3, e4, e5, e6]

theorem cutC_sound (s : Sim B W ρ h w) {a : Option Addr} {n c : Nat} {x' : Value} {t e : TypeId} {i : TypeInfo} (hu : P.underlying t = some (.slice e)) (hi : P.info? e = some i) (hx : VRel B ρ (.slice a n c) x')
    {lo' hi' : Option Value} {lo hh : Option Int} (hl : Bnd lo' lo) (hh' : Bnd hi' hh) {K : Value → Option R} (hk : cutC h a n c i.size lo hh K = some r) :
    ∃ v v', K v = some r ∧ VRel B ρ v v' ∧ (Instr.sliceAt t x' lo' hi' none).run P w = .ok v' w := by
  unfold cutC cutT at hk
  cases hx with
  | slNil =>
    obtain ⟨hb, hk⟩ := needC_some hk
    simp only [Bool.and_eq_true, decide_eq_true_eq] at hb
    refine ⟨_, .slice none 0 0, hk, .slNil, ?_⟩
    have e1 := hb.1.1.1
    have e2 := hb.1.1.2
    have := run_cut hu hi none 0 0 hl hh' (by omega) (by rw [e1]; simp [e2]) (by simp [e2]) (Nat.le_refl _) w
    rw [this]
    simp [e1, e2]
  | slOld hlt =>
    rename_i ad
    have hd : decide (ad.block < h.base) = true := by rw [s.base]; exact decide_eq_true hlt
    simp only [hd, cond_true] at hk
    obtain ⟨hb, hk⟩ := needC_some hk
    simp only [Bool.and_eq_true, decide_eq_true_eq] at hb
    have hr := run_cut hu hi (some ad) n c hl hh' hb.1.1.1 hb.1.1.2 hb.1.2 hb.2 w
    refine ⟨_, _, hk, ?_, hr⟩
    by_cases hc : c = (lo.getD 0).toNat
    · simp only [hc, decide_true, cond_true, if_true]
      exact .slOld hlt
    · simp only [hc, decide_false, cond_false, if_false, Option.map_some]
      exact .slOld (by unfold Addr.add; split <;> exact hlt)
  | @slNew rr o _ c' l hr hn ht =>
    have hge := (s.dom _ _ hr).1
    have hd : decide ((⟨rr, o, none⟩ : Addr).block < h.base) = false := by rw [s.base]; exact decide_eq_false (by simp; omega)
    simp only [hd, cond_false] at hk
    split at hk
    · rename_i b hb0
      obtain ⟨hb, hk⟩ := needC_some hk
      simp only [Bool.and_eq_true, decide_eq_true_eq] at hb
      obtain ⟨⟨⟨⟨g1, g2⟩, g3⟩, g4⟩, g5⟩ := hb
      obtain ⟨l', hl', _, _, _, _, _, q4, _⟩ := s.new _ b hb0
      rw [hr] at hl'; cases hl'
      have hsz : l.sz = i.size := by omega
      have hrun := run_cut hu hi (some ⟨l.block, l.base + o, none⟩) n c' hl hh' g1 g2 (by omega) hn w
      refine ⟨_, _, hk, ?_, hrun⟩
      by_cases hc : c' = (lo.getD 0).toNat
      · have e1 : (hh.getD (n : Int)).toNat - (lo.getD 0).toNat = 0 := by omega
        simp only [hc, if_true, Nat.sub_self, e1]
        rw [add_spot _ rfl]
        exact .slEmpty hr
      · simp only [hc, if_false, Option.map_some]
        rw [add_spot _ rfl, add_spot _ rfl]
        simp only [Nat.add_assoc]
        refine .slNew hr (by omega) ?_
        rw [hsz]
        have hm : (lo.getD 0).toNat * i.size + (c' - (lo.getD 0).toNat) * i.size = c' * i.size := by
          rw [← Nat.add_mul]
          congr 1
          omega
        rw [hsz] at ht
        omega
    · cases hk
  | @slEmpty rr o b l hr =>
    have hge := (s.dom _ _ hr).1
    have hd : decide ((⟨rr, o, none⟩ : Addr).block < h.base) = false := by rw [s.base]; exact decide_eq_false (by simp; omega)
    simp only [hd, cond_false] at hk
    split at hk
    · obtain ⟨hb, hk⟩ := needC_some hk
      simp only [Bool.and_eq_true, decide_eq_true_eq] at hb
      obtain ⟨⟨⟨⟨g1, g2⟩, g3⟩, g4⟩, g5⟩ := hb
      have e1 : lo.getD 0 = 0 := by simp at g2 g3; omega
      have e2 : hh.getD 0 = 0 := by simp at g2 g3; omega
      have hrun := run_cut hu hi (some b) 0 0 hl hh' g1 g2 g3 (Nat.le_refl _) w
      refine ⟨_, _, hk, ?_, hrun⟩
      simp only [e1, Int.ofNat_eq_natCast, Int.natCast_zero, e2, Int.toNat_zero, if_true, Nat.sub_self, Nat.zero_mul]
      rw [add_spot _ rfl]
      exact .slEmpty hr
    · cases hk

/-- What is appended, or copied. -/
theorem srcC_slice (s : Sim B W ρ h w) {sz m : Nat} {b : Option Addr} {n d : Nat} {x' : Value} (hx : VRel B ρ (.slice b n d) x') (hm : m ≤ n) {K : List Value → Option R} (hk : srcC h sz m (.slice b n d) K = some r) :
    ∃ vs vs' b' d', K vs = some r ∧ VRels B ρ vs vs' ∧ x' = .slice b' n d' ∧ (b = none → b' = none ∧ vs = []) ∧ (∀ ad, b = some ad → vs.length = m * sz ∧ ∃ ad', b' = some ad' ∧ ∀ (j : Nat) (v : Value), vs'[j]? = some v → w.cell? (ad'.add j) = some v) := by
  cases b with
  | none =>
    unfold srcC at hk
    obtain ⟨b', d', rfl, hb⟩ := rel_slice hx
    have hb' : b' = none := by cases b' <;> simp at hb ⊢
    exact ⟨[], [], b', d', hk, .nil, rfl, fun _ => ⟨hb', rfl⟩, fun ad hh => by cases hh⟩
  | some ad =>
    unfold srcC at hk
    dsimp only at hk
    split at hk
    · rename_i cs hcs
      obtain ⟨hl, hg⟩ := rawCells_some hcs
      by_cases h0 : m * sz = 0
      · have : cs = [] := by cases cs with
          | nil => rfl
          | cons x cs => simp at hl; omega
        subst this
        obtain ⟨b', d', rfl, hb⟩ := rel_slice hx
        obtain ⟨ad', rfl⟩ : ∃ z, b' = some z := by cases b' <;> simp at hb ⊢
        exact ⟨[], [], _, d', hk, .nil, rfl, (fun h => by cases h), fun ad2 hh => ⟨by simp; omega, ad', rfl, fun j v hv => by simp at hv⟩⟩
      · have hn : 0 < n := by
          have : 0 < m := Nat.pos_of_ne_zero (fun e => h0 (by rw [e, Nat.zero_mul]))
          omega
        obtain ⟨ad', c', rfl, ha⟩ := rel_slice_addr hx hn
        obtain ⟨vs', hr, hc⟩ := s.cells ha hg
        exact ⟨cs, vs', _, c', hk, hr, rfl, (fun h => by cases h), fun ad2 hh => ⟨hl, ad', rfl, hc⟩⟩
    · cases hk

theorem growBy_le (n : Nat) : ∀ (k c : Nat), Builtin.growBy n k c ≤ max c (n + (n + 768) / 4)
  | 0, c => Nat.le_max_left _ _
  | k + 1, c => by
    rw [Builtin.growBy]
    split
    · exact Nat.le_max_left _ _
    · have := growBy_le n k (c + (c + 768) / 4)
      omega
theorem nextcap_le (need old : Nat) (h : old < need) : Builtin.nextslicecap need old ≤ 2 * need + 512 := by
  unfold Builtin.nextslicecap
  split
  · omega
  · split
    · omega
    · have := growBy_le need 4 old
      omega
theorem grown_fits {need old bytes : Nat} (h : old < need) (h1 : need * (bytes + 1) ≤ 70368744177664) (h2 : bytes ≤ 1048576) : Builtin.nextslicecap need old * bytes ≤ 281474976710656 := by
  have a := nextcap_le need old h
  have b : Builtin.nextslicecap need old * bytes ≤ (2 * need + 512) * bytes := Nat.mul_le_mul_right _ a
  have c : (2 * need + 512) * bytes = 2 * (need * bytes) + 512 * bytes := by rw [Nat.add_mul, Nat.mul_assoc]
  have d : need * (bytes + 1) = need * bytes + need := Nat.mul_succ _ _
  omega
theorem need_small {need bytes : Nat} (h1 : need * (bytes + 1) ≤ 70368744177664) : need ≤ 70368744177664 := by
  have d : need * (bytes + 1) = need * bytes + need := Nat.mul_succ _ _
  omega

theorem grownCap_ge (w : World) (need old : Nat) (e : TypeId) : need ≤ grownCap w need old e := by
  unfold grownCap Question.cut
  exact Nat.le_add_right _ _

/-- The room behind a block that may be written is written. -/
theorem Sim.beyond (s : Sim B W ρ h w) {q : Nat} {b : Blk} {l : Loc} (hb : h.new q = some b) (hl : ρ q = some l) (hrw : b.rw = true) (c : Array Value) (t : TypeId) (hg : w.heap[l.block]? = some (.cells c t (0, 0)))
    (vs' : List Value) (hfit : l.base + b.cells.length + vs'.length ≤ c.size) : Sim B W ρ h (w.setCells l.block (l.base + b.cells.length) vs') := by
  have hrow := setCells_row l.block t (0, 0) vs' (l.base + b.cells.length) c w hg hfit
  rw [hrow]
  have hnew := setRow_heap w l.block c (c.toList.take (l.base + b.cells.length) ++ vs' ++ c.toList.drop (l.base + b.cells.length + vs'.length)).toArray t (0, 0) hg
  have hB := (s.dom q l hl).2.2.1
  have hsize : (w.setRow l.block (c.toList.take (l.base + b.cells.length) ++ vs' ++ c.toList.drop (l.base + b.cells.length + vs'.length)).toArray).heap.size = w.heap.size := by simp [World.setRow]
  refine ⟨s.below.trans (Below.setRow' hB _), s.low, s.base, s.first, ?_, ?_, ?_, ?_, s.apart, s.mapsApart⟩
  · intro a v hav
    obtain ⟨h1, h2, h3⟩ := s.old a v hav
    refine ⟨h1, ?_, h3⟩
    rw [(Below.setRow' (w := w) hB _).cell h1]
    exact h2
  · intro q' k hq
    obtain ⟨x, y, z, u⟩ := s.dom q' k hq
    exact ⟨x, y, z, by rw [hsize]; exact u⟩
  · intro q2 b2 hq2
    obtain ⟨k, hk, c2, t2, k1, k2, k3, k4, k5⟩ := s.new q2 b2 hq2
    by_cases e : k.block = l.block
    · rw [e, hg] at k1
      cases k1
      have hext : k.base + b2.cells.length ≤ l.base + b.cells.length := by
        by_cases e2 : q2 = q
        · subst e2
          rw [hb] at hq2; cases hq2
          rw [hl] at hk; cases hk
          exact Nat.le_refl _
        · rcases s.apart q2 b2 q b k l hq2 hb e2 hk hl e with ⟨_, _, z⟩ | ⟨_, y, _⟩
          · exact z
          · rw [hrw] at y; cases y
      refine ⟨k, hk, _, t, by rw [e]; exact hnew, ?_, k3, k4, ?_⟩
      · simp
        omega
      · intro i v hv
        obtain ⟨v', h1, h2⟩ := k5 i v hv
        refine ⟨v', ?_, h2⟩
        have hi : i < b2.cells.length := by
          rcases Nat.lt_or_ge i b2.cells.length with hlt | hge
          · exact hlt
          · rw [List.getElem?_eq_none hge] at hv; cases hv
        have hc := splice_get c.toList (l.base + b.cells.length) vs' (by simpa using hfit) (k.base + i)
        unfold splice at hc
        rw [List.getElem?_toArray, hc, if_neg (by omega)]
        simpa using h1
    · exact ⟨k, hk, c2, t2, by rw [setRow_other _ _ _ _ e]; exact k1, k2, k3, k4, k5⟩
  · intro q2 es hq2
    obtain ⟨k, hk, c2, t2, k1, k2⟩ := s.maps q2 es hq2
    refine ⟨k, hk, c2, t2, ?_, k2⟩
    rw [setRow_other]
    · exact k1
    · intro e
      rw [e, hg] at k1
      cases k1

theorem growC_sound (s : Sim B W ρ h w) {a : Option Addr} {n c m : Nat} {sl' x' : Value} {t tx ty e : TypeId} {i : TypeInfo} {z : Value} (ht : P.underlying t = some (.slice e)) (hi : P.info? e = some i) (hz : i.zero = some z) (hzs : z.cells.size = i.size)
    (hx : VRel B ρ (.slice a n c) sl') {vs vs' : List Value} (hv : VRels B ρ vs vs') (hsrc : (oneCells vs = true) → vs.length = m * i.size → Src P i.size tx x' m vs' w) (hsrc0 : m = 0 → Src P i.size tx x' 0 [] w) {K : Value → Hp → Option R} (hk : growC h i.size i.bytes a n c m vs K = some r) :
    ∃ v h' v' w', K v h' = some r ∧ (Builtin.append_ #[t, tx] ty #[sl', x']).run P w = .ok v' w' ∧ Post B W ρ h' v v' w' := by
  unfold growC growT at hk
  by_cases hm : m = 0
  · simp only [hm, decide_true, cond_true] at hk
    obtain ⟨hb, hk⟩ := needC_some hk
    obtain ⟨a', c', rfl, hn⟩ := rel_slice hx
    have hle : n ≤ c' := by
      cases hx with
      | slNil => exact Nat.le_refl _
      | slOld hlt =>
        simp only [s.base, Bool.or_eq_true, Bool.not_eq_true', decide_eq_false_iff_not, decide_eq_true_eq] at hb
        omega
      | slNew _ h _ => exact h
      | slEmpty _ => exact Nat.le_refl _
    refine ⟨_, _, _, w, hk, run_append_nothing w t tx ty e i ht hi a' n c' hle x' (hsrc0 hm), Post.same s hx⟩
  · simp only [hm, decide_false, cond_false] at hk
    obtain ⟨hb, hk1⟩ := needC_some hk
    clear hk
    simp only [Bool.and_eq_true, decide_eq_true_eq] at hb
    obtain ⟨⟨⟨b1, b2⟩, b3⟩, b4⟩ := hb
    have hS := hsrc b4 b3
    have hlen := hv.length
    have hsmall := need_small b1
    have hposm : 0 < m := by omega
    -- the arm that makes a new row
    have grow : ∀ (ao : Option Addr) (cap : Nat) (olds olds' : List Value), cap < n + m → VRels B ρ olds olds' → olds.length = n * i.size → (∀ (j : Nat) (v : Value), olds'[j]? = some v → ∃ ad, ao = some ad ∧ w.cell? (ad.add j) = some v) → (ao = none → n = 0) →
        ∀ (h0 : Hp), Sim B W ρ h0 w → ∀ par, ∃ v' w', (Builtin.append_ #[t, tx] ty #[.slice ao n cap, x']).run P w = .ok v' w' ∧ Post B W ρ (h0.alloc (olds ++ vs) i.size par) (.slice (some ⟨h0.next, 0, none⟩) (n + m) 0) v' w' := by
      intro ao cap olds olds' hcap ho hol hoc hnn h0 s0 par
      have hfirst : (Builtin.firstCells i.size n (.slice ao n cap)).run P w.drew = .ok olds'.toArray w.drew := by
        cases ao with
        | none =>
          have hn0 := hnn rfl
          have : olds' = [] := by
            have h2 := ho.length
            rw [hol, hn0] at h2
            cases olds' with
            | nil => rfl
            | cons x l => simp at h2
          subst this
          exact run_firstCells_none w.drew _ _ _ _
        | some ad =>
          refine run_firstCells_some w.drew i.size n ad n cap olds' (by rw [← ho.length, hol]) ?_
          intro j v hjv
          obtain ⟨ad2, e2, hc⟩ := hoc j v hjv
          cases e2
          simpa using hc
      have hrun := run_append_grow_src w t tx ty e i z ht hi hz ao n cap olds' hfirst x' m vs' hS hcap (by omega) (grown_fits hcap b1 b2)
      refine ⟨_, _, hrun, ?_⟩
      have hge := grownCap_ge w (n + m) cap e
      have hsz : ((olds' ++ vs').toArray ++ Builtin.zeroCells z.cells (grownCap w (n + m) cap e - (n + m))).size = grownCap w (n + m) cap e * i.size := by
        have h1 : olds'.length = n * i.size := by rw [← ho.length, hol]
        have h2 : vs'.length = m * i.size := by rw [← hlen, b3]
        simp only [Array.size_append, List.size_toArray, List.length_append, h1, h2, Builtin.zeroCells, Array.size_map, Array.size_range, hzs, ← Nat.add_mul]
        congr 1
        omega
      have hrel := ho.append hv
      have S2 := s0.drew.fresh (olds ++ vs) i.size ((olds' ++ vs').toArray ++ Builtin.zeroCells z.cells (grownCap w (n + m) cap e - (n + m))) e
        (by rw [hsz, List.length_append, hol, b3, ← Nat.add_mul]; exact Nat.mul_le_mul_right _ hge)
        (fun j v hjv => by
          obtain ⟨v', h1, h2⟩ := hrel.get hjv
          refine ⟨v', ?_, h2⟩
          rw [Array.getElem?_append]
          have hlt : j < (olds' ++ vs').toArray.size := by
            rcases Nat.lt_or_ge j (olds' ++ vs').length with hx | hx
            · simpa using hx
            · rw [List.getElem?_eq_none hx] at h1; cases h1
          rw [if_pos hlt]
          simpa using h1) par
      refine ⟨_, addP_le s0.next_none _, S2, ?_⟩
      have hp := VRel.slNew (B := B) (ρ := addP ρ h0.next ⟨w.drew.heap.size, 0, ((olds' ++ vs').toArray ++ Builtin.zeroCells z.cells (grownCap w (n + m) cap e - (n + m))).size, i.size⟩) (r := h0.next) (o := 0) (n := n + m) (c := grownCap w (n + m) cap e) (addP_self _ _) hge (by simp only [hsz]; omega)
      exact hp
    cases a with
    | none =>
      obtain ⟨hb, hk⟩ := needC_some hk1
      clear hk1
      have hn0 : n = 0 := of_decide_eq_true hb
      subst hn0
      cases hx
      obtain ⟨v', w', h1, h2⟩ := grow none 0 [] [] (by omega) .nil (by simp) (fun j v hv => by simp at hv) (fun _ => rfl) h s []
      exact ⟨_, _, v', w', hk, h1, by simpa using h2⟩
    | some ad =>
      dsimp only at hk1
      split at hk1
      · rename_i b hbn
        obtain ⟨hb, hk⟩ := needC_some hk1
        clear hk1
        simp only [Bool.and_eq_true, decide_eq_true_eq] at hb
        obtain ⟨⟨⟨⟨g1, g2⟩, g3⟩, g4⟩, g5⟩ := hb
        obtain ⟨q, o, sp⟩ := ad
        simp only at hbn g4 hk
        have hsp : sp = none := by cases sp <;> simp at g2 ⊢
        subst hsp
        obtain ⟨l, hl, cc, tt, q1, q2, q3, q4, q5⟩ := s.new q b hbn
        have hge := (s.dom q l hl).1
        have hsz : l.sz = i.size := by omega
        -- the cells of the slice itself
        have holds : VRels B ρ (b.cells.drop o) ((cc.toList.drop (l.base + o)).take (n * i.size)) ∧ (b.cells.drop o).length = n * i.size := by
          refine ⟨VRels.of_get ?_ ?_, by simp; omega⟩
          · simp
            omega
          · intro j u u' hu hu'
            rw [List.getElem?_drop] at hu
            obtain ⟨u2, k1, k2⟩ := q5 _ _ hu
            rw [List.getElem?_take] at hu'
            split at hu'
            · rw [List.getElem?_drop] at hu'
              have : cc.toList[l.base + o + j]? = some u2 := by
                rw [← k1]
                simp [Nat.add_assoc]
              rw [this] at hu'
              cases hu'
              exact k2
            · cases hu'
        have S1 := s.fence q
        cases hx with
        | slOld hlt => simp at hlt; omega
        | @slNew _ _ _ c' l' hr hn htop =>
          rw [hl] at hr; cases hr
          by_cases hroom : n + m ≤ c'
          · -- there is room: in place
            have hfit : l.base + b.cells.length + vs'.length ≤ cc.size := by
              have h1 : vs'.length = m * i.size := by rw [← hlen, b3]
              have h2 : (n + m) * i.size ≤ c' * i.size := Nat.mul_le_mul_right _ hroom
              rw [Nat.add_mul] at h2
              rw [hsz] at htop
              omega
            have hone := oneCells_one b4 hv
            have hoff : l.base + o + n * i.size = l.base + b.cells.length := by omega
            have hrun := run_append_room_src w t tx ty e i ht hi l.block (l.base + o) n c' x' m vs' hS hroom
              (fun j hj => by
                rw [cell_of_heap q1, hoff]
                have : l.base + b.cells.length + j < cc.size := by omega
                simp [this])
              (fun j hj => by simp [World.frozen?, q1])
            rw [hoff] at hrun
            have S2 := s.beyond hbn hl g1 cc tt q1 vs' hfit
            have S3 := S2.fence q
            have hnw := setCells_row l.block tt (0, 0) vs' (l.base + b.cells.length) cc w q1 hfit
            have hnew := setRow_heap w l.block cc (cc.toList.take (l.base + b.cells.length) ++ vs' ++ cc.toList.drop (l.base + b.cells.length + vs'.length)).toArray tt (0, 0) q1
            rw [← hnw] at hnew
            have hnx : (h.fence q).next = h.next := rfl
            have S4 := S3.add (b.cells.drop o ++ vs) i.size (q :: b.par) ⟨l.block, l.base + o, l.top, i.size⟩ (s.dom q l hl).2.2.1 (S3.dom q l hl).2.2.2
              ⟨_, tt, hnew, by
                  simp
                  omega, by
                  have h1 : vs'.length = m * i.size := by rw [← hlen, b3]
                  simp only [List.length_append, List.length_drop]
                  omega, rfl, by
                  intro j u hu
                  have hc := splice_get cc.toList (l.base + b.cells.length) vs' (by simpa using hfit) (l.base + o + j)
                  unfold splice at hc
                  rw [List.getElem?_toArray, hc]
                  simp only at hu
                  rw [List.getElem?_append] at hu
                  split at hu
                  · rename_i hj
                    simp only [List.length_drop] at hj
                    rw [if_neg (by omega)]
                    rw [List.getElem?_drop] at hu
                    obtain ⟨u2, k1, k2⟩ := q5 _ _ hu
                    exact ⟨u2, by rw [← k1]; simp [Nat.add_assoc], k2.mono (addP_le S3.next_none _)⟩
                  · rename_i hj
                    simp only [List.length_drop] at hj hu
                    obtain ⟨u2, k1, k2⟩ := hv.get hu
                    have hlt : j - (b.cells.length - o) < vs'.length := by
                      rcases Nat.lt_or_ge (j - (b.cells.length - o)) vs'.length with hx | hx
                      · exact hx
                      · rw [List.getElem?_eq_none hx] at k1; cases k1
                    rw [if_pos (by omega)]
                    refine ⟨u2, ?_, k2.mono (addP_le S3.next_none _)⟩
                    rw [← k1]
                    congr 1
                    omega⟩
              (fun q2 b2 k hq2 hk2 he => by
                rw [seal_new] at hq2
                simp only at he
                split at hq2
                · rename_i e2
                  subst e2
                  rw [hbn] at hq2
                  cases hq2
                  rw [hl] at hk2; cases hk2
                  refine ⟨by simp, rfl, ?_⟩
                  simp only [List.length_append, List.length_drop]
                  omega
                · rename_i e2
                  rcases s.apart q2 b2 q b k l hq2 hbn e2 hk2 hl he with ⟨x, y, zz⟩ | ⟨_, y, _⟩
                  · refine ⟨by simp [x], y, ?_⟩
                    simp only [List.length_append, List.length_drop]
                    omega
                  · rw [g1] at y; cases y)
            refine ⟨_, _, _, _, hk, hrun, _, addP_le s.next_none _, S4, ?_⟩
            have hp := VRel.slNew (B := B) (ρ := addP ρ h.next ⟨l.block, l.base + o, l.top, i.size⟩) (r := h.next) (o := 0) (n := n + m) (c := c') (addP_self _ _) hroom (by
              simp only [Nat.add_zero]
              rw [hsz] at htop
              exact htop)
            simpa using hp
          · -- there is none
            obtain ⟨v', w', h1, h2⟩ := grow (some ⟨l.block, l.base + o, none⟩) c' _ _ (by omega) holds.1 holds.2
              (fun j u hu => by
                refine ⟨_, rfl, ?_⟩
                rw [add_spot _ rfl, cell_of_heap q1]
                rw [List.getElem?_take] at hu
                split at hu
                · rw [List.getElem?_drop] at hu
                  simpa using hu
                · cases hu) (fun hh => by cases hh) (h.fence q) S1 (q :: b.par)
            exact ⟨_, _, v', w', hk, h1, h2⟩
        | @slEmpty _ _ b0 l' hr =>
          obtain ⟨v', w', h1, h2⟩ := grow (some b0) 0 (b.cells.drop o) ((cc.toList.drop (l.base + o)).take (0 * i.size)) (by omega) holds.1 holds.2
            (fun j u hu => by simp at hu) (fun hh => by cases hh) (h.fence q) S1 (q :: b.par)
          exact ⟨_, _, v', w', hk, h1, h2⟩
      · rename_i hbn
        obtain ⟨hb, hk⟩ := needC_some hk1
        clear hk1
        simp only [Bool.and_eq_true, decide_eq_true_eq] at hb
        obtain ⟨hcn, hold⟩ := hb
        rw [s.base] at hold
        split at hk
        · rename_i cs hcs
          obtain ⟨hcl, hcg⟩ := rawCells_some hcs
          by_cases hn0 : n = 0
          · have hcs0 : cs = [] := by cases cs with
              | nil => rfl
              | cons x cs => rw [hn0] at hcl; simp at hcl
            subst hcs0
            obtain ⟨a', c', rfl, hnn⟩ := rel_slice hx
            obtain ⟨ad', rfl⟩ : ∃ zz, a' = some zz := by cases a' <;> simp at hnn ⊢
            have hc0 : c' ≤ n + m - 1 := by
              cases hx with
              | slOld _ => omega
              | slNew hr hn2 htop => have := (s.dom _ _ hr).1; simp at hold; omega
              | slEmpty _ => omega
            obtain ⟨v', w', h1, h2⟩ := grow (some ad') c' [] [] (by omega) .nil (by simpa using hcl) (fun j v hv => by simp at hv) (fun hh => by cases hh) h s []
            exact ⟨_, _, v', w', hk, h1, h2⟩
          · cases hx with
            | slOld hlt =>
              obtain ⟨vs2, hr2, hc2⟩ := s.cells (ARel.old hlt) hcg
              obtain ⟨v', w', h1, h2⟩ := grow (some ad) c cs vs2 (by omega) hr2 hcl (fun j v hv => ⟨ad, rfl, hc2 j v hv⟩) (fun hh => by cases hh) h s []
              exact ⟨_, _, v', w', hk, h1, h2⟩
            | slNew hr hn2 htop => have := (s.dom _ _ hr).1; simp at hold; omega
            | slEmpty _ => exact absurd rfl hn0
        · cases hk
end
end Go.Proofs.Ytcdeeppiljcddaa.AM
