/- Orders' cycles: each number once, each one's next is its place's number, each begins with its least. Conditions: none. -/
import Derived.Test.YtcdeeppiljcddaaSp9
namespace Go.Proofs.Ytcdeeppiljcddaa.AM
open Go

theorem at_inj {p : List Int} (ho : isOrd p = true) {x y : Int} (hx : 0 ≤ x ∧ x < p.length) (hy : 0 ≤ y ∧ y < p.length) (he : atL p x = atL p y) : x = y := by
  rw [← inv_at ho hx.1 hx.2, ← inv_at ho hy.1 hy.2, he]
/-- A cycle of an order. -/
structure IsCyc (p : List Int) (c : List Int) : Prop where
  ne : c ≠ []
  nodup : c.Nodup
  in_ : ∀ x ∈ c, 0 ≤ x ∧ x < p.length
  next : ∀ j (hj : j < c.length), atL p c[j] = c[(j + 1) % c.length]'(Nat.mod_lt _ (by omega))
structure CycInv (p V left : List Int) (i x : Int) (c : List Int) : Prop where
  len : left.length = p.length
  left : ∀ y : Nat, y < p.length → atL left (y : Int) = if (y : Int) ∈ V ∨ (y : Int) ∈ c then -1 else atL p (y : Int)
  nodup : c.Nodup
  out : ∀ y ∈ c, y ∉ V
  in_ : ∀ y ∈ c, 0 ≤ y ∧ y < p.length
  chain : ∀ j (hj : j + 1 < c.length), atL p (c[j]'(by omega)) = c[j + 1]
  here : (c = [] ∧ x = i) ∨ ∃ h : c ≠ [], c.head h = i ∧ atL p (c.getLast h) = x
  x_in : 0 ≤ x ∧ x < p.length
theorem leftN_pos {left : List Int} {m : Nat} (hm : m < left.length) (h0 : 0 ≤ left[m]) : 0 < leftN left :=
  List.countP_pos_iff.2 ⟨_, List.getElem_mem hm, by simpa using h0⟩
structure CycRes (p V : List Int) (i : Int) (r : List Int × List Int) : Prop where
  cyc : IsCyc p r.1
  head : ∀ h : r.1 ≠ [], r.1.head h = i
  out : ∀ y ∈ r.1, y ∉ V
  len : r.2.length = p.length
  left : ∀ y : Nat, y < p.length → atL r.2 (y : Int) = if (y : Int) ∈ V ∨ (y : Int) ∈ r.1 then -1 else atL p (y : Int)
theorem goC_cyc {p V : List Int} (ho : isOrd p = true) (hV : ∀ y : Int, 0 ≤ y → y < p.length → (y ∈ V ↔ atL p y ∈ V)) {i : Int} (hi : i ∉ V) :
    ∀ (f : Nat) (left : List Int) (x : Int) (c : List Int), CycInv p V left i x c → leftN left < f →
      CycRes p V i (goC f left x c) := by
  intro f
  induction f with
  | zero => intro left x c hc hf; omega
  | succ f ih =>
    intro left x c hc hf
    have hlen := hc.len
    have hxV : x ∉ V := by
      rcases hc.here with ⟨_, rfl⟩ | ⟨h, _, h2⟩
      · exact hi
      · have hl := List.getLast_mem h
        have := hV _ (hc.in_ _ hl).1 (hc.in_ _ hl).2
        rw [h2] at this
        exact fun hx => hc.out _ hl (this.2 hx)
    obtain ⟨m, hm⟩ : ∃ m : Nat, x = m := ⟨x.toNat, by have := hc.x_in; omega⟩
    have hml : m < p.length := by have := hc.x_in; omega
    have hlx := hc.left m hml
    rw [← hm] at hlx
    by_cases hxc : x ∈ c
    · rw [if_pos (.inr hxc)] at hlx
      have hg : goC (f + 1) left x c = (c, left) := by
        unfold goC; rw [if_neg (by omega)]
      rw [hg]
      rcases hc.here with ⟨h, _⟩ | ⟨h, h1, h2⟩
      · rw [h] at hxc; cases hxc
      · -- x is the first one
        obtain ⟨j, hj, hjx⟩ := List.mem_iff_getElem.1 hxc
        have hlast : c.getLast h = c[c.length - 1]'(by omega) := List.getLast_eq_getElem h
        have hj0 : j = 0 := by
          cases j with
          | zero => rfl
          | succ k =>
            have hk := hc.chain k hj
            rw [hjx, ← h2] at hk
            have := at_inj ho (hc.in_ _ (List.getElem_mem (by omega))) (hc.in_ _ (List.getLast_mem h)) hk
            rw [hlast] at this
            have := nodup_getElem hc.nodup (by omega) (by omega) this
            omega
        subst hj0
        refine ⟨⟨h, hc.nodup, hc.in_, fun j (hj : j < c.length) => ?_⟩, fun h' => h1, hc.out, hc.len, hc.left⟩
        by_cases hjl : j + 1 < c.length
        · have : (j + 1) % c.length = j + 1 := Nat.mod_eq_of_lt hjl
          simp only [this]
          exact hc.chain j hjl
        · have hj2 : j = c.length - 1 := by omega
          subst hj2
          have : (c.length - 1 + 1) % c.length = 0 := by
            rw [Nat.sub_add_cancel (by omega)]; exact Nat.mod_self _
          simp only [this]
          rw [← hlast, h2, hjx]
    · rw [if_neg (by intro hh; rcases hh with hh | hh; exact hxV hh; exact hxc hh)] at hlx
      have hpx := ord_at ho hc.x_in.1 hc.x_in.2
      have hg : goC (f + 1) left x c = goC f (left.set x.toNat (-1)) (atL p x) (c ++ [x]) := by
        rw [goC, hlx, if_pos hpx.1]
      rw [hg]
      have hmleft : m < left.length := by rw [hc.len]; exact hml
      have hleftm : 0 ≤ left[m] := by
        rw [← atL_eq hmleft, ← hm, hlx]; exact hpx.1
      have hcnt := leftN_set hmleft hleftm
      have hxm : x.toNat = m := by omega
      rw [hxm]
      refine ih (left.set m (-1)) (atL p x) (c ++ [x]) ⟨by rw [List.length_set]; exact hc.len, fun y hy => ?_, ?_, ?_, ?_, ?_, ?_, hpx⟩ (by omega)
      · by_cases hym : m = y
        · subst hym
          rw [if_pos (.inr (by rw [hm]; simp)), atL_eq (by rw [List.length_set]; exact hmleft)]
          simp
        · have : atL (left.set m (-1)) (y : Int) = atL left (y : Int) := by
            rw [atL_eq (by rw [List.length_set]; omega), atL_eq (by omega), List.getElem_set_ne hym]
          rw [this, hc.left y hy]
          have hyx : (y : Int) ≠ x := by omega
          simp only [List.mem_append, List.mem_singleton, hyx, or_false]
      · rw [List.nodup_append]
        refine ⟨hc.nodup, by simp, fun a ha b hb hab => ?_⟩
        rw [List.mem_singleton] at hb
        subst hb hab
        exact hxc ha
      · intro y hy
        rcases List.mem_append.1 hy with hy | hy
        · exact hc.out y hy
        · rw [List.mem_singleton.1 hy]; exact hxV
      · intro y hy
        rcases List.mem_append.1 hy with hy | hy
        · exact hc.in_ y hy
        · rw [List.mem_singleton.1 hy]; exact hc.x_in
      · intro j hj
        rw [List.length_append, List.length_singleton] at hj
        by_cases hjl : j + 1 < c.length
        · rw [List.getElem_append_left (by omega), List.getElem_append_left hjl]
          exact hc.chain j hjl
        · have hj2 : j + 1 = c.length := by omega
          rw [List.getElem_append_left (by omega), List.getElem_append_right (by omega)]
          simp only [List.getElem_singleton]
          rcases hc.here with ⟨h, _⟩ | ⟨h, _, h2⟩
          · rw [h] at hj2; simp at hj2
          · rw [List.getLast_eq_getElem] at h2
            have : c.length - 1 = j := by omega
            simp only [this] at h2
            exact h2
      · refine .inr ⟨by simp, ?_, by simp⟩
        rcases hc.here with ⟨h, h2⟩ | ⟨h, h2, _⟩
        · subst h; simpa using h2
        · rw [List.head_append_of_ne_nil h]; exact h2
def hd (c : List Int) : Int := c.headD 0
theorem hd_head {c : List Int} (h : c ≠ []) : hd c = c.head h := by
  cases c with
  | nil => exact absurd rfl h
  | cons x l => rfl
/-- An order's cycles, as far as they are found: all of the numbers below k. -/
structure OutInv (p left : List Int) (outs : List (List Int)) (k : Nat) : Prop where
  len : left.length = p.length
  left : ∀ y : Nat, y < p.length → atL left (y : Int) = if (y : Int) ∈ outs.flatten then -1 else atL p (y : Int)
  closed : ∀ y : Int, 0 ≤ y → y < p.length → (y ∈ outs.flatten ↔ atL p y ∈ outs.flatten)
  cyc : ∀ c ∈ outs, IsCyc p c
  heads : outs.Pairwise fun c d => hd c < hd d
  below : ∀ c ∈ outs, hd c < k
  least : ∀ c ∈ outs, ∀ x ∈ c, hd c ≤ x
  nodup : outs.flatten.Nodup
  all : ∀ y : Nat, y < k → y < p.length → (y : Int) ∈ outs.flatten
theorem mem_cyc {p c : List Int} (ho : isOrd p = true) (hc : IsCyc p c) {y : Int} (h0 : 0 ≤ y) (h1 : y < p.length) : y ∈ c ↔ atL p y ∈ c := by
  constructor
  · intro hy
    obtain ⟨j, hj, rfl⟩ := List.mem_iff_getElem.1 hy
    rw [hc.next j hj]
    exact List.getElem_mem _
  · intro hy
    obtain ⟨j, hj, hjx⟩ := List.mem_iff_getElem.1 hy
    -- the one ahead of place j
    have hlen : 0 < c.length := by omega
    have hk : (j + c.length - 1) % c.length < c.length := Nat.mod_lt _ hlen
    have hn := hc.next _ hk
    have hmod : ((j + c.length - 1) % c.length + 1) % c.length = j := by
      rw [Nat.mod_add_mod]
      have : j + c.length - 1 + 1 = j + c.length := by omega
      rw [this, Nat.add_mod_right, Nat.mod_eq_of_lt hj]
    simp only [hmod] at hn
    rw [hjx] at hn
    have := at_inj ho (hc.in_ _ (List.getElem_mem hk)) ⟨h0, h1⟩ hn
    rw [← this]
    exact List.getElem_mem hk
theorem outer_step {p left : List Int} {outs : List (List Int)} {k : Nat} (ho : isOrd p = true) (hk : k < p.length) (hi : OutInv p left outs k) :
    OutInv p (cycStep p.length (left, outs) k).1 (cycStep p.length (left, outs) k).2 (k + 1) := by
  have hlk := hi.left k hk
  by_cases hkV : (k : Int) ∈ outs.flatten
  · rw [if_pos hkV] at hlk
    have hg : goC (p.length + 1) left (k : Int) [] = ([], left) := by
      unfold goC; rw [if_neg (by omega)]
    have hst : cycStep p.length (left, outs) k = (left, outs) := by
      unfold cycStep
      simp only [hg, if_pos]
    rw [hst]
    exact ⟨hi.len, hi.left, hi.closed, hi.cyc, hi.heads, fun c hc => by have := hi.below c hc; omega, hi.least, hi.nodup, fun y hy hyn => by
      by_cases he : y = k
      · rw [he]; exact hkV
      · exact hi.all y (by omega) hyn⟩
  · have hleft : leftN left < p.length + 1 := by
      have := List.countP_le_length (p := fun y => decide (0 ≤ y)) (l := left)
      rw [hi.len] at this
      unfold leftN
      omega
    have hr := goC_cyc ho hi.closed hkV (p.length + 1) left (k : Int) [] ⟨hi.len, fun y hy => by rw [hi.left y hy]; simp, List.nodup_nil, by simp, by simp, fun j hj => by simp at hj, .inl ⟨rfl, rfl⟩, by omega, by omega⟩ hleft
    have hst : cycStep p.length (left, outs) k = ((goC (p.length + 1) left (k : Int) []).2, outs ++ [(goC (p.length + 1) left (k : Int) []).1]) := by
      unfold cycStep
      simp only [if_neg hr.cyc.ne]
    rw [hst]
    generalize goC (p.length + 1) left (k : Int) [] = g at hr
    have hhd : hd g.1 = k := by
      rw [hd_head hr.cyc.ne]
      exact hr.head hr.cyc.ne
    have hfl : (outs ++ [g.1]).flatten = outs.flatten ++ g.1 := by simp
    refine ⟨hr.len, fun y hy => ?_, fun y h0 h1 => ?_, fun c hc => ?_, ?_, fun c hc => ?_, fun c hc x hx => ?_, ?_, fun y hy hyn => ?_⟩
    · rw [hr.left y hy]
      simp only [hfl, List.mem_append]
    · rw [hfl, List.mem_append, List.mem_append, hi.closed y h0 h1, mem_cyc ho hr.cyc h0 h1]
    · rcases List.mem_append.1 hc with hc | hc
      · exact hi.cyc c hc
      · rw [List.mem_singleton.1 hc]; exact hr.cyc
    · rw [List.pairwise_append]
      refine ⟨hi.heads, List.pairwise_singleton _ _, fun c hc d hd' => ?_⟩
      rw [List.mem_singleton.1 hd', hhd]
      exact hi.below c hc
    · rcases List.mem_append.1 hc with hc | hc
      · have := hi.below c hc; omega
      · rw [List.mem_singleton.1 hc, hhd]; omega
    · rcases List.mem_append.1 hc with hc | hc
      · exact hi.least c hc x hx
      · rw [List.mem_singleton.1 hc] at hx ⊢
        rw [hhd]
        have hin := hr.cyc.in_ x hx
        have hout := hr.out x hx
        rcases Int.lt_or_le x k with hlt | hge
        · have := hi.all x.toNat (by omega) (by omega)
          rw [Int.toNat_of_nonneg hin.1] at this
          exact absurd this hout
        · exact hge
    · rw [hfl, List.nodup_append]
      exact ⟨hi.nodup, hr.cyc.nodup, fun a ha b hb hab => hr.out b hb (hab ▸ ha)⟩
    · rw [hfl, List.mem_append]
      by_cases he : y = k
      · right
        rw [he, ← hhd, hd_head hr.cyc.ne]
        exact List.head_mem _
      · left
        exact hi.all y (by omega) hyn
theorem outer_run {p : List Int} (ho : isOrd p = true) : ∀ (j k : Nat) (left : List Int) (outs : List (List Int)), j + k = p.length → OutInv p left outs k →
    OutInv p (cycRun p.length ((List.range p.length).drop k) (left, outs)).1 (cycRun p.length ((List.range p.length).drop k) (left, outs)).2 p.length := by
  intro j
  induction j with
  | zero =>
    intro k left outs hk hi
    rw [List.drop_of_length_le (by simp; omega)]
    have : k = p.length := by omega
    subst this
    exact hi
  | succ j ih =>
    intro k left outs hk hi
    have hd : (List.range p.length).drop k = k :: (List.range p.length).drop (k + 1) := by
      rw [List.drop_eq_getElem_cons (by simp; omega)]
      simp
    rw [hd]
    unfold cycRun
    rw [List.foldl_cons]
    exact ih (k + 1) _ _ (by omega) (outer_step ho (by omega) hi)
/-- All of an order's cycles. -/
structure CycOk (p : List Int) (l : List (List Int)) : Prop where
  cyc : ∀ c ∈ l, IsCyc p c
  heads : l.Pairwise fun c d => hd c < hd d
  least : ∀ c ∈ l, ∀ x ∈ c, hd c ≤ x
  perm : (upto p.length).Perm l.flatten
theorem cycL_ok {p : List Int} (ho : isOrd p = true) : CycOk p (cycL p) := by
  have h0 : OutInv p p [] 0 := ⟨rfl, fun y hy => by simp, fun y _ _ => by simp, by simp, List.Pairwise.nil, by simp, by simp, by simp, fun y hy => by omega⟩
  have h := outer_run ho p.length 0 p [] (by omega) h0
  rw [List.drop_zero] at h
  refine ⟨h.cyc, h.heads, h.least, ?_⟩
  have h1 : (upto p.length) ⊆ (cycL p).flatten := fun x hx => by
    have := mem_upto.1 hx
    have h2 := h.all x.toNat (by omega) (by omega)
    rwa [Int.toNat_of_nonneg this.1] at h2
  refine perm_of_sub (upto_nodup _) h1 ?_
  refine List.Nodup.length_le_of_subset h.nodup fun x hx => ?_
  obtain ⟨c, hc, hxc⟩ := List.mem_flatten.1 hx
  exact mem_upto.2 ((h.cyc c hc).in_ x hxc)
end Go.Proofs.Ytcdeeppiljcddaa.AM
