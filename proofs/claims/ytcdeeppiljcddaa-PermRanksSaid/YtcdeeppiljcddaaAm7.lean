/- AM, the seventh part: the heaps stay together through what an operation does to memory. Conditions: none. -/
import Derived.Test.YtcdeeppiljcddaaAm6
namespace Go.Proofs.Ytcdeeppiljcddaa.AM
open Go Go.RowKit
set_option linter.unusedSectionVars false
set_option linter.unusedSimpArgs false

section
variable {B : Nat} {W : World} {ρ : Places} {h : Hp} {w w' : World}

theorem BlkRel.mono {ρ' : Places} {l : Loc} {b : Blk} (hle : LeP ρ ρ') (hb : BlkRel B ρ w l b) : BlkRel B ρ' w l b := by
  obtain ⟨c, t, h1, h2, h3, h4, h5⟩ := hb
  exact ⟨c, t, h1, h2, h3, h4, fun i v hv => let ⟨v', a, b⟩ := h5 i v hv; ⟨v', a, b.mono hle⟩⟩
theorem ERels.mono {ρ' : Places} (hle : LeP ρ ρ') {xs : List (Value × Value)} {es : List MapEntry} (he : ERels B ρ xs es) : ERels B ρ' xs es := by
  induction he with
  | nil => exact .nil
  | cons hk hp hv _ ih => exact .cons hk hp (hv.mono hle) ih
theorem MapRel.mono {ρ' : Places} {l : Loc} {es : List (Value × Value)} (hle : LeP ρ ρ') (hb : MapRel B ρ w l es) : MapRel B ρ' w l es := by
  obtain ⟨c, t, h1, h2⟩ := hb
  exact ⟨c, t, h1, h2.mono hle⟩

/-- The world grows: nothing that was there turns. -/
theorem Sim.grow (s : Sim B W ρ h w) (hb : Below B w w') (hs : w.heap.size ≤ w'.heap.size) (hk : ∀ k, k < w.heap.size → w'.heap[k]? = w.heap[k]?) : Sim B W ρ h w' where
  below := s.below.trans hb
  low := s.low
  base := s.base
  first := s.first
  old := fun a v hv => by
    obtain ⟨h1, h2, h3⟩ := s.old a v hv
    exact ⟨h1, by rw [hb.cell h1]; exact h2, h3⟩
  dom := fun r l hr => by
    obtain ⟨a, b, c, d⟩ := s.dom r l hr
    exact ⟨a, b, c, by omega⟩
  new := fun r b hr => by
    obtain ⟨l, hl, c, t, h1, hrest⟩ := s.new r b hr
    exact ⟨l, hl, c, t, by rw [hk _ (s.dom r l hl).2.2.2]; exact h1, hrest⟩
  maps := fun r es hr => by
    obtain ⟨l, hl, c, t, h1, hrest⟩ := s.maps r es hr
    exact ⟨l, hl, c, t, by rw [hk _ (s.dom r l hl).2.2.2]; exact h1, hrest⟩
  apart := s.apart
  mapsApart := s.mapsApart

theorem Sim.drew (s : Sim B W ρ h w) : Sim B W ρ h w.drew := s.grow ((Below.refl B w).drew) (Nat.le_refl _) (fun _ _ => rfl)
theorem Sim.alloc (s : Sim B W ρ h w) (o : Obj) : Sim B W ρ h (w.alloc o) :=
  s.grow ((Below.refl B w).alloc (Nat.le_trans s.low s.below.size) o) (by show w.heap.size ≤ (w.heap.push o).size; simp) (fun k hk => Below.heap_alloc w o k hk)

/-- Only the next number, the least one written: nothing of the memory. -/
theorem Sim.relow (s : Sim B W ρ h w) (n : Nat) : Sim B W ρ { h with low := n } w :=
  ⟨s.below, s.low, s.base, s.first, s.old, s.dom, s.new, s.maps, s.apart, s.mapsApart⟩

def addP (ρ : Places) (r : Nat) (l : Loc) : Places := fun q => if q = r then some l else ρ q
theorem addP_le (hn : ρ h.next = none) (l : Loc) : LeP ρ (addP ρ h.next l) := fun r k hr => by
  unfold addP
  split
  · rename_i e
    subst e
    rw [hn] at hr
    cases hr
  · exact hr
theorem addP_self (r : Nat) (l : Loc) : addP ρ r l r = some l := if_pos rfl
theorem addP_other {r q : Nat} (l : Loc) (hne : q ≠ r) : addP ρ r l q = ρ q := if_neg hne

theorem seal_new (h : Hp) (r q : Nat) : (h.fence r).new q = if q = r then (h.new q).map (fun b => { b with rw := false }) else h.new q := by
  unfold Hp.fence
  by_cases e : q = r
  · subst e; simp
  · have : (q == r) = false := by simpa using e
    simp [e, this]
theorem Sim.fence (s : Sim B W ρ h w) (r : Nat) : Sim B W ρ (h.fence r) w := by
  have hb : ∀ q b, (h.fence r).new q = some b → ∃ b0, h.new q = some b0 ∧ b.cells = b0.cells ∧ b.sz = b0.sz ∧ b.par = b0.par ∧ (b0.rw = false → b.rw = false) := by
    intro q b hq
    rw [seal_new] at hq
    split at hq
    · cases hn : h.new q with
      | none => rw [hn] at hq; cases hq
      | some b0 =>
        rw [hn] at hq
        cases hq
        exact ⟨b0, rfl, rfl, rfl, rfl, fun _ => rfl⟩
    · exact ⟨b, hq, rfl, rfl, rfl, fun h => h⟩
  refine ⟨s.below, s.low, s.base, s.first, s.old, s.dom, ?_, s.maps, ?_, s.mapsApart⟩
  · intro q b hq
    obtain ⟨b0, h0, hc, hs, hp, _⟩ := hb q b hq
    obtain ⟨l, hl, c, t, h1, h2, h3, h4, h5⟩ := s.new q b0 h0
    exact ⟨l, hl, c, t, h1, h2, by rw [hc]; exact h3, by rw [hs]; exact h4, by rw [hc]; exact h5⟩
  · intro r1 b1 r2 b2 l1 l2 h1 h2 hne hl1 hl2 he
    obtain ⟨c1, k1, e1, _, p1, w1⟩ := hb r1 b1 h1
    obtain ⟨c2, k2, e2, _, p2, w2⟩ := hb r2 b2 h2
    rcases s.apart r1 c1 r2 c2 l1 l2 k1 k2 hne hl1 hl2 he with ⟨x, y, z⟩ | ⟨x, y, z⟩
    · exact .inl ⟨by rw [p2]; exact x, w1 y, by rw [e1, e2]; exact z⟩
    · exact .inr ⟨by rw [p1]; exact x, w2 y, by rw [e1, e2]; exact z⟩

theorem alloc_new (h : Hp) (cs : List Value) (sz : Nat) (par : List Nat) (q : Nat) : (h.alloc cs sz par).new q = if q = h.next then some ⟨cs, sz, true, par⟩ else h.new q := by
  unfold Hp.alloc
  by_cases e : q = h.next
  · subst e; simp
  · have : (q == h.next) = false := by simpa using e
    simp [e, this]

/-- A new number is given to a row that lies in the world. -/
theorem Sim.add (s : Sim B W ρ h w) (cs : List Value) (sz : Nat) (par : List Nat) (l : Loc) (hB : B ≤ l.block) (hlt : l.block < w.heap.size) (hrel : BlkRel B (addP ρ h.next l) w l ⟨cs, sz, true, par⟩)
    (hap : ∀ q b k, h.new q = some b → ρ q = some k → k.block = l.block → q ∈ par ∧ b.rw = false ∧ k.base + b.cells.length ≤ l.base + cs.length) :
    Sim B W (addP ρ h.next l) (h.alloc cs sz par) w where
  below := s.below
  low := s.low
  base := s.base
  first := Nat.le_trans s.first (Nat.le_succ _)
  old := fun a v hv => by
    obtain ⟨h1, h2, h3⟩ := s.old a v hv
    exact ⟨h1, h2, h3.mono (addP_le s.next_none l)⟩
  dom := fun r k hr => by
    show B ≤ r ∧ r < h.next + 1 ∧ _
    unfold addP at hr
    split at hr
    · rename_i e
      subst e
      cases hr
      exact ⟨s.first, by omega, hB, hlt⟩
    · obtain ⟨a, b, c, d⟩ := s.dom r k hr
      exact ⟨a, by omega, c, d⟩
  new := fun r b hr => by
    rw [alloc_new] at hr
    split at hr
    · rename_i e
      subst e
      cases hr
      exact ⟨l, addP_self _ _, hrel⟩
    · rename_i e
      obtain ⟨k, hk, hb⟩ := s.new r b hr
      exact ⟨k, by rw [addP_other _ e]; exact hk, hb.mono (addP_le s.next_none l)⟩
  maps := fun r es hr => by
    have hr' : h.maps r = some es := hr
    have e : r ≠ h.next := by have := (s.maps_lt hr').2; omega
    obtain ⟨k, hk, hb⟩ := s.maps r es hr'
    exact ⟨k, by rw [addP_other _ e]; exact hk, hb.mono (addP_le s.next_none l)⟩
  apart := fun r1 b1 r2 b2 l1 l2 h1 h2 hne hl1 hl2 he => by
    rw [alloc_new] at h1 h2
    split at h1
    · rename_i e1
      split at h2
      · rename_i e2
        omega
      · rename_i e2
        cases h1
        subst e1
        rw [addP_self] at hl1
        rw [addP_other _ e2] at hl2
        cases hl1
        obtain ⟨x, y, z⟩ := hap r2 b2 l2 h2 hl2 he.symm
        exact .inr ⟨x, y, z⟩
    · rename_i e1
      split at h2
      · rename_i e2
        cases h2
        subst e2
        rw [addP_self] at hl2
        rw [addP_other _ e1] at hl1
        cases hl2
        obtain ⟨x, y, z⟩ := hap r1 b1 l1 h1 hl1 he
        exact .inl ⟨x, y, z⟩
      · rename_i e2
        rw [addP_other _ e1] at hl1
        rw [addP_other _ e2] at hl2
        exact s.apart r1 b1 r2 b2 l1 l2 h1 h2 hne hl1 hl2 he
  mapsApart := fun r1 e1 r2 e2 l1 l2 h1 h2 hne hl1 hl2 => by
    have n1 : r1 ≠ h.next := by have := (s.maps_lt (r := r1) (es := e1) h1).2; omega
    have n2 : r2 ≠ h.next := by have := (s.maps_lt (r := r2) (es := e2) h2).2; omega
    rw [addP_other _ n1] at hl1
    rw [addP_other _ n2] at hl2
    exact s.mapsApart r1 e1 r2 e2 l1 l2 h1 h2 hne hl1 hl2

/-- A new block of the world. -/
theorem Sim.fresh (s : Sim B W ρ h w) (cs : List Value) (sz : Nat) (c : Array Value) (t : TypeId) (hlen : cs.length ≤ c.size)
    (hrel : ∀ (i : Nat) (v : Value), cs[i]? = some v → ∃ v', c[i]? = some v' ∧ VRel B ρ v v') (par : List Nat) :
    Sim B W (addP ρ h.next ⟨w.heap.size, 0, c.size, sz⟩) (h.alloc cs sz par) (w.alloc (.cells c t)) := by
  have s' := s.alloc (.cells c t)
  have hw : B ≤ w.heap.size := Nat.le_trans s.low s.below.size
  have hat : (w.alloc (.cells c t)).heap[w.heap.size]? = some (.cells c t (0, 0)) := by show (w.heap.push _)[w.heap.size]? = _; simp
  refine s'.add cs sz par ⟨w.heap.size, 0, c.size, sz⟩ hw (by show w.heap.size < (w.heap.push _).size; simp) ⟨c, t, hat, rfl, by simpa using hlen, rfl, ?_⟩ ?_
  · intro i v hv
    obtain ⟨v', a, b⟩ := hrel i v hv
    exact ⟨v', by simpa using a, b.mono (addP_le s.next_none _)⟩
  · intro q b k hq hk he
    have := (s.dom q k hk).2.2.2
    simp at he
    omega

/-! A store. -/
theorem setCells_row (b : Nat) (t : TypeId) (fz : Nat × Nat) : ∀ (vs : List Value) (o : Nat) (cur : Array Value) (w : World), w.heap[b]? = some (.cells cur t fz) → o + vs.length ≤ cur.size →
    w.setCells b o vs = w.setRow b (cur.toList.take o ++ vs ++ cur.toList.drop (o + vs.length)).toArray
  | [], o, cur, w, hg, _ => by
    simp only [World.setCells, List.append_nil, List.length_nil, Nat.add_zero, List.take_append_drop, Array.toArray_toList]
    rw [setRow_self w b cur t fz hg]
  | v :: rest, o, cur, w, hg, hl => by
    have ih := setCells_row b t fz rest (o + 1) (cur.setIfInBounds o v) (w.setRow b (cur.setIfInBounds o v)) (setRow_heap w b cur _ t _ hg) (by simp at hl ⊢; omega)
    simp only [World.setCells]
    rw [setCell_eq_setRow w b o cur t fz v hg, ih, setRow_setRow]
    congr 2
    have e := list_seg_step cur.toList o v rest (by simp at hl ⊢; omega)
    simpa [Array.toList_setIfInBounds, Nat.add_assoc] using e

theorem Below.setRow' {B g : Nat} {w : World} (hg : B ≤ g) (cs : Array Value) : Below B w (w.setRow g cs) :=
  ⟨rfl, rfl, rfl, by simp [World.setRow], fun k hk => setRow_other w g k cs (by omega)⟩

theorem splice_get (cs : List Value) (o : Nat) (vs : List Value) (hl : o + vs.length ≤ cs.length) (i : Nat) : (splice cs o vs)[i]? = if o ≤ i ∧ i < o + vs.length then vs[i - o]? else cs[i]? := by
  unfold splice
  rw [List.append_assoc, List.getElem?_append]
  simp only [List.length_take]
  have hm : min o cs.length = o := by omega
  rw [hm]
  split
  · rename_i h1
    rw [if_neg (by omega), List.getElem?_take, if_pos h1]
  · rename_i h1
    rw [List.getElem?_append]
    split
    · rename_i h2
      rw [if_pos (by omega)]
    · rename_i h2
      rw [if_neg (by omega), List.getElem?_drop]
      congr 1
      omega

theorem write_new (h : Hp) (r : Nat) (b : Blk) (o : Nat) (vs : List Value) (q : Nat) : (h.write r b o vs).new q = if q = r then some { b with cells := splice b.cells o vs, par := [] } else if q ∈ b.par then none else h.new q := by
  unfold Hp.write
  by_cases e : q = r
  · subst e; simp
  · simp only [beq_iff_eq, e, if_false]
    have : (q == r) = false := by simpa using e
    rw [this, cond_false]
    by_cases m : q ∈ b.par
    · simp [m]
    · simp [m]

/-- The world's row of a block is changed from o on, as the evaluator's is. -/
theorem Sim.write (s : Sim B W ρ h w) {r : Nat} {b : Blk} {l : Loc} (hb : h.new r = some b) (hl : ρ r = some l) (hrw : b.rw = true) (c : Array Value) (t : TypeId) (hg : w.heap[l.block]? = some (.cells c t (0, 0)))
    (o : Nat) (vs vs' : List Value) (ho : o + vs.length ≤ b.cells.length) (hv : VRels B ρ vs vs') :
    Sim B W ρ (h.write r b o vs) (w.setCells l.block (l.base + o) vs') := by
  have hlen := hv.length
  obtain ⟨l', hl', c', t', g1, g2, g3, g4, g5⟩ := s.new r b hb
  rw [hl] at hl'; cases hl'
  rw [hg] at g1; cases g1
  have hfit : l.base + o + vs'.length ≤ c.size := by omega
  have hrow := setCells_row l.block t (0, 0) vs' (l.base + o) c w hg hfit
  rw [hrow]
  have hnew := setRow_heap w l.block c (c.toList.take (l.base + o) ++ vs' ++ c.toList.drop (l.base + o + vs'.length)).toArray t (0, 0) hg
  have hB := (s.dom r l hl).2.2.1
  have below := s.below.trans (Below.setRow' hB (c.toList.take (l.base + o) ++ vs' ++ c.toList.drop (l.base + o + vs'.length)).toArray)
  have hsize : (w.setRow l.block (c.toList.take (l.base + o) ++ vs' ++ c.toList.drop (l.base + o + vs'.length)).toArray).heap.size = w.heap.size := by simp [World.setRow]
  refine ⟨below, s.low, s.base, s.first, ?_, ?_, ?_, ?_, ?_, s.mapsApart⟩
  · intro a v hav
    obtain ⟨h1, h2, h3⟩ := s.old a v hav
    refine ⟨h1, ?_, h3⟩
    rw [(Below.setRow' (w := w) hB _).cell h1]
    exact h2
  · intro q k hq
    obtain ⟨x, y, z, u⟩ := s.dom q k hq
    exact ⟨x, y, z, by rw [hsize]; exact u⟩
  · intro q b' hq
    rw [write_new] at hq
    split at hq
    · rename_i e
      subst e
      cases hq
      refine ⟨l, hl, _, t, hnew, ?_, ?_, g4, ?_⟩
      · simp
        omega
      · have : (splice b.cells o vs).length = b.cells.length := by unfold splice; simp; omega
        rw [this]
        exact g3
      · intro i v hiv
        rw [splice_get _ _ _ ho] at hiv
        have hc := splice_get c.toList (l.base + o) vs' (by simpa using hfit) (l.base + i)
        unfold splice at hc
        rw [List.getElem?_toArray, hc]
        split at hiv
        · rename_i hi
          rw [if_pos (by omega)]
          obtain ⟨v', h1, h2⟩ := hv.get hiv
          refine ⟨v', ?_, h2⟩
          rw [← h1]
          congr 1
          omega
        · rename_i hi
          rw [if_neg (by omega)]
          obtain ⟨v', h1, h2⟩ := g5 i v hiv
          exact ⟨v', by simpa using h1, h2⟩
    · rename_i e
      split at hq
      · cases hq
      · rename_i np
        obtain ⟨k, hk, c2, t2, k1, krest⟩ := s.new q b' hq
        refine ⟨k, hk, c2, t2, ?_, krest⟩
        rw [setRow_other _ _ _ _ ?_]
        · exact k1
        · intro eq
          rcases s.apart q b' r b k l hq hb e hk hl eq with ⟨x, _, _⟩ | ⟨_, y, _⟩
          · exact np x
          · rw [hrw] at y
            cases y
  · intro q es hq
    obtain ⟨k, hk, c2, t2, k1, krest⟩ := s.maps q es hq
    refine ⟨k, hk, c2, t2, ?_, krest⟩
    rw [setRow_other _ _ _ _ ?_]
    · exact k1
    · intro eq
      rw [eq, hg] at k1
      cases k1
  · have key : ∀ q b' k, h.new q = some b' → q ≠ r → q ∉ b.par → ρ q = some k → k.block = l.block → False := by
      intro q b' k hq e np hk eq
      rcases s.apart q b' r b k l hq hb e hk hl eq with ⟨x, _, _⟩ | ⟨_, y, _⟩
      · exact np x
      · rw [hrw] at y
        cases y
    intro r1 b1 r2 b2 l1 l2 h1 h2 hne hl1 hl2 he
    rw [write_new] at h1 h2
    split at h1
    · rename_i e1
      split at h2
      · rename_i e2; omega
      · rename_i e2
        split at h2
        · cases h2
        · rename_i np
          subst e1
          rw [hl] at hl1; cases hl1
          exact (key r2 b2 l2 h2 e2 np hl2 he.symm).elim
    · rename_i e1
      split at h1
      · cases h1
      · rename_i np1
        split at h2
        · rename_i e2
          subst e2
          rw [hl] at hl2; cases hl2
          exact (key r1 b1 l1 h1 e1 np1 hl1 he).elim
        · rename_i e2
          split at h2
          · cases h2
          · exact s.apart r1 b1 r2 b2 l1 l2 h1 h2 hne hl1 hl2 he
end
end Go.Proofs.Ytcdeeppiljcddaa.AM
