/- Orders' parity: by cycles, and by numbers that stand the wrong way round. Conditions: none. -/
import Derived.Test.YtcdeeppiljcddaaSp13
import Derived.Test.YtcdeeppiljcddaaMa3
namespace Go.Proofs.Ytcdeeppiljcddaa.AM
open Go

def invN : List Int → Nat
  | [] => 0
  | x :: l => lessN x l + invN l
theorem inv_prefix : ∀ (a : List Int) {s t : List Int}, s.Perm t → invN (a ++ s) + invN t = invN (a ++ t) + invN s
  | [], s, t, _ => by simp; omega
  | x :: a, s, t, h => by
    have h1 := inv_prefix a h
    have h2 : (a ++ s).Perm (a ++ t) := h.append_left a
    rw [List.cons_append, List.cons_append, invN, invN, lessN_perm h2]
    omega
def cross : List Int → List Int → Nat
  | [], _ => 0
  | b :: bs, d => lessN b d + cross bs d
def gtN (x : Int) (l : List Int) : Nat := l.countP fun y => decide (x < y)
theorem lessN_append (x : Int) (l m : List Int) : lessN x (l ++ m) = lessN x l + lessN x m := List.countP_append
theorem lessN_cons (x y : Int) (l : List Int) : lessN x (y :: l) = lessN x l + if y < x then 1 else 0 := by
  unfold lessN; rw [List.countP_cons]; simp
theorem inv_append : ∀ (b d : List Int), invN (b ++ d) = invN b + invN d + cross b d
  | [], d => by simp [invN, cross]
  | x :: b, d => by
    rw [List.cons_append, invN, inv_append b d, invN, cross, lessN_append]
    omega
theorem cross_cons : ∀ (b d : List Int) (y : Int), cross b (y :: d) = cross b d + gtN y b
  | [], d, y => rfl
  | x :: b, d, y => by
    rw [cross, cross, cross_cons b d y, lessN_cons]
    unfold gtN
    rw [List.countP_cons]
    by_cases h : y < x
    · simp [h]; omega
    · simp [h]; omega
theorem less_gt : ∀ {x : Int} {l : List Int}, x ∉ l → lessN x l + gtN x l = l.length
  | x, [], _ => rfl
  | x, y :: l, h => by
    rw [List.mem_cons, not_or] at h
    have := less_gt h.2
    rw [lessN_cons]
    unfold gtN at this ⊢
    rw [List.countP_cons, List.length_cons]
    by_cases h1 : y < x
    · have h2 : ¬ x < y := by omega
      simp [h1, h2]; omega
    · have h2 : x < y := by omega
      simp [h1, h2]; omega
theorem inv_swap {A B C : List Int} {x y : Int} (hxy : x ≠ y) (hx : x ∉ B) (hy : y ∉ B) : (invN (A ++ x :: (B ++ y :: C)) + invN (A ++ y :: (B ++ x :: C))) % 2 = 1 := by
  have hp : (x :: (B ++ y :: C)).Perm (y :: (B ++ x :: C)) := by
    have p1 : (x :: (B ++ y :: C)).Perm (x :: y :: (B ++ C)) := List.Perm.cons x List.perm_middle
    have p2 : (y :: (B ++ x :: C)).Perm (y :: x :: (B ++ C)) := List.Perm.cons y List.perm_middle
    exact p1.trans ((List.Perm.swap y x _).trans p2.symm)
  have h1 := inv_prefix A hp
  have hS : invN (x :: (B ++ y :: C)) = lessN x B + (lessN x C + if y < x then 1 else 0) + (invN B + (lessN y C + invN C) + (cross B C + gtN y B)) := by
    rw [invN, lessN_append, lessN_cons, inv_append, invN, cross_cons]
  have hT : invN (y :: (B ++ x :: C)) = lessN y B + (lessN y C + if x < y then 1 else 0) + (invN B + (lessN x C + invN C) + (cross B C + gtN x B)) := by
    rw [invN, lessN_append, lessN_cons, inv_append, invN, cross_cons]
  have g1 := less_gt hx
  have g2 := less_gt hy
  by_cases h : x < y
  · have h2 : ¬ y < x := by omega
    rw [if_neg h2] at hS
    rw [if_pos h] at hT
    omega
  · have h2 : y < x := by omega
    rw [if_pos h2] at hS
    rw [if_neg h] at hT
    omega
theorem swap_comm {l : List Int} {a b : Nat} (h : a ≠ b) : swapL l a b = swapL l b a := by
  unfold swapL
  exact List.set_comm _ _ h
theorem swap_inv_lt {l : List Int} (hn : l.Nodup) {a b : Nat} (hab : a < b) (hb : b < l.length) : (invN l + invN (swapL l a b)) % 2 = 1 := by
  have ha : a < l.length := by omega
  obtain ⟨A, x, M, y, Q, hp, hA, hM⟩ : ∃ A x M y Q, l = A ++ x :: (M ++ y :: Q) ∧ A.length = a ∧ A.length + 1 + M.length = b := by
    refine ⟨l.take a, l[a], (l.drop (a + 1)).take (b - (a + 1)), l[b], l.drop (b + 1), ?_, by simp; omega, by simp; omega⟩
    have e1 : (l.drop (a + 1)).drop (b - (a + 1)) = l[b] :: l.drop (b + 1) := by
      rw [List.drop_drop]
      have : a + 1 + (b - (a + 1)) = b := by omega
      rw [this, List.drop_eq_getElem_cons hb]
    rw [← e1, List.take_append_drop, ← List.drop_eq_getElem_cons ha, List.take_append_drop]
  have hs := swap_parts A M Q x y
  rw [← hp, hA] at hs
  have e2 : a + 1 + M.length = b := by omega
  rw [e2] at hs
  rw [hs]
  rw [hp] at hn ⊢
  have h1 := (List.nodup_append.1 hn).2.1
  have h2 := List.nodup_cons.1 h1
  have h3 := List.nodup_append.1 h2.2
  refine inv_swap (fun he => h2.1 (by rw [he]; simp)) (fun hx => h2.1 (by simp [hx])) (fun hy => h3.2.2 y hy y (by simp) rfl)
theorem swap_inv {l : List Int} (hn : l.Nodup) {a b : Nat} (hab : a ≠ b) (ha : a < l.length) (hb : b < l.length) : (invN l + invN (swapL l a b)) % 2 = 1 := by
  rcases Nat.lt_or_gt_of_ne hab with h | h
  · exact swap_inv_lt hn h hb
  · rw [swap_comm hab]
    exact swap_inv_lt hn h ha

/-- An order, told by cycles. -/
structure Dec (p : List Int) (l : List (List Int)) : Prop where
  ord : isOrd p = true
  cyc : ∀ c ∈ l, IsCyc p c
  perm : (upto p.length).Perm l.flatten
theorem swap_perm {l : List Int} {a b : Nat} (ha : a < l.length) (hb : b < l.length) (hab : a < b) : (swapL l a b).Perm l := by
  obtain ⟨A, x, M, y, Q, hp, hA, hM⟩ : ∃ A x M y Q, l = A ++ x :: (M ++ y :: Q) ∧ A.length = a ∧ A.length + 1 + M.length = b := by
    refine ⟨l.take a, l[a], (l.drop (a + 1)).take (b - (a + 1)), l[b], l.drop (b + 1), ?_, by simp; omega, by simp; omega⟩
    have e1 : (l.drop (a + 1)).drop (b - (a + 1)) = l[b] :: l.drop (b + 1) := by
      rw [List.drop_drop]
      have : a + 1 + (b - (a + 1)) = b := by omega
      rw [this, List.drop_eq_getElem_cons hb]
    rw [← e1, List.take_append_drop, ← List.drop_eq_getElem_cons ha, List.take_append_drop]
  have hs := swap_parts A M Q x y
  rw [← hp, hA] at hs
  have e2 : a + 1 + M.length = b := by omega
  rw [e2] at hs
  rw [hs]
  conv => rhs; rw [hp]
  have p1 : (x :: (M ++ y :: Q)).Perm (x :: y :: (M ++ Q)) := List.Perm.cons x List.perm_middle
  have p2 : (y :: (M ++ x :: Q)).Perm (y :: x :: (M ++ Q)) := List.Perm.cons y List.perm_middle
  exact ((p2.trans (List.Perm.swap x y _)).trans p1.symm).append_left A
theorem swap_perm' {l : List Int} {a b : Nat} (ha : a < l.length) (hb : b < l.length) (hab : a ≠ b) : (swapL l a b).Perm l := by
  rcases Nat.lt_or_gt_of_ne hab with h | h
  · exact swap_perm ha hb h
  · rw [swap_comm hab]; exact swap_perm hb ha h
theorem at_swap {l : List Int} {a b : Nat} (ha : a < l.length) (hb : b < l.length) (hab : a ≠ b) {z : Nat} (hz : z < l.length) :
    atL (swapL l a b) (z : Int) = if z = a then atL l (b : Int) else if z = b then atL l (a : Int) else atL l (z : Int) := by
  rw [atL_eq (by rw [swapL_length]; exact hz)]
  unfold swapL
  rw [List.getElem_set, List.getElem_set]
  by_cases h1 : z = a
  · subst h1
    simp [Ne.symm hab]
  · by_cases h2 : z = b
    · subst h2
      simp [h1]
    · have h3 : ¬ b = z := fun h => h2 h.symm
      have h4 : ¬ a = z := fun h => h1 h.symm
      simp [h1, h2, h3, h4, atL_eq hz]
theorem pick_swap {p r : List Int} {a b : Nat} (ha : a < p.length) (hb : b < p.length) (hab : a ≠ b) : pickL (swapL p a b) r = swapL (pickL p r) a b := by
  have hl : (pickL p r).length = p.length := pickL_length p r
  refine ext_at (by rw [pickL_length, swapL_length, swapL_length, hl]) fun z hz => ?_
  rw [pickL_length, swapL_length] at hz
  rw [at_pick (by omega) (by rw [swapL_length]; omega), at_swap ha hb hab hz, at_swap (by omega) (by omega) hab (by omega), at_pick (by omega) (by omega), at_pick (by omega) (by omega), at_pick (by omega) (by omega)]
  by_cases h1 : z = a
  · rw [if_pos h1, if_pos h1]
  · rw [if_neg h1, if_neg h1]
    by_cases h2 : z = b
    · rw [if_pos h2, if_pos h2]
    · rw [if_neg h2, if_neg h2]
theorem inv_asc : ∀ {l : List Int}, l.Pairwise (· < ·) → invN l = 0
  | [], _ => rfl
  | x :: l, h => by
    rw [List.pairwise_cons] at h
    have h2 : lessN x l = 0 := List.countP_eq_zero.2 fun y hy => by have := h.1 y hy; simp; omega
    rw [invN, h2, inv_asc h.2]
theorem evens_append (l m : List (List Int)) : evens (l ++ m) = evens l + evens m := List.countP_append
theorem evens_cons (c : List Int) (l : List (List Int)) : evens (c :: l) = evens l + if c.length % 2 = 0 then 1 else 0 := by
  unfold evens; rw [List.countP_cons]; simp

/-- What does not turn the cycle's two places turns it no more. -/
theorem cyc_same {p p' c : List Int} (hl : p'.length = p.length) (hc : IsCyc p c) (h : ∀ x ∈ c, atL p' x = atL p x) : IsCyc p' c :=
  ⟨hc.ne, hc.nodup, fun x hx => by rw [hl]; exact hc.in_ x hx, fun j hj => by rw [h _ (List.getElem_mem hj)]; exact hc.next j hj⟩
theorem flat_ge : ∀ (l : List (List Int)), (∀ c ∈ l, c ≠ []) → l.length ≤ l.flatten.length
  | [], _ => Nat.le_refl _
  | c :: l, h => by
    have h1 := flat_ge l fun d hd => h d (List.mem_cons_of_mem _ hd)
    have h2 := List.length_pos_iff.2 (h c (List.mem_cons_self ..))
    rw [List.flatten_cons, List.length_append, List.length_cons]
    omega
theorem dec_parity (p : List Int) (l : List (List Int)) (hD : Dec p l) (r : List Int) (hr : isOrd r = true) (hrl : r.length = p.length) : invN (pickL p r) % 2 = (invN r + evens l) % 2 := by
  have hfl : l.flatten.length = p.length := by rw [← hD.perm.length_eq, upto_length]
  have hfn : l.flatten.Nodup := hD.perm.nodup (upto_nodup _)
  by_cases hall : ∀ c ∈ l, c.length = 1
  · have hp : p = upto p.length := ext_at (by rw [upto_length]) fun y hy => by
      have hm : (y : Int) ∈ l.flatten := hD.perm.mem_iff.1 (mem_upto.2 ⟨by omega, by omega⟩)
      obtain ⟨c, hc, hyc⟩ := List.mem_flatten.1 hm
      have hc1 := hall c hc
      have hcy := hD.cyc c hc
      obtain ⟨z, rfl⟩ := List.length_eq_one_iff.1 hc1
      rw [List.mem_singleton] at hyc
      have h1 := hcy.next 0 (by simp)
      simp at h1
      rw [hyc, h1, at_upto (by omega) (by omega)]
    have he : evens l = 0 := List.countP_eq_zero.2 fun c hc => by rw [hall c hc]; simp
    rw [he, Nat.add_zero]
    have : pickL p r = r := by
      rw [hp, ← hrl]; exact pick_upto
    rw [this]
  · have hex : ∃ c ∈ l, c.length ≠ 1 := by
      refine Classical.byContradiction fun hn => hall fun c hc => Classical.byContradiction fun h1 => hn ⟨c, hc, h1⟩
    obtain ⟨c, hcl, hc1⟩ := hex
    obtain ⟨l1, l2, hl⟩ := List.append_of_mem hcl
    have hcy := hD.cyc c hcl
    obtain ⟨x, y, rest, hcx⟩ : ∃ x y rest, c = x :: y :: rest := by
      match c, hcy.ne, hc1 with
      | [], h, _ => exact absurd rfl h
      | [a], _, h => exact absurd rfl h
      | a :: b :: t, _, _ => exact ⟨a, b, t, rfl⟩
    subst hcx
    have hnx := List.nodup_cons.1 hcy.nodup
    have hne : (y :: rest) ≠ [] := by simp
    have hlm := List.getLast_mem hne
    generalize hz : (y :: rest).getLast hne = z at hlm
    have hxz : x ≠ z := fun h => hnx.1 (h ▸ hlm)
    have hxin := hcy.in_ x (List.mem_cons_self ..)
    have hzin := hcy.in_ z (List.mem_cons_of_mem _ hlm)
    obtain ⟨a, rfl⟩ : ∃ a : Nat, x = a := ⟨x.toNat, by omega⟩
    obtain ⟨b, rfl⟩ : ∃ b : Nat, z = b := ⟨z.toNat, by omega⟩
    have hal : a < p.length := by omega
    have hbl : b < p.length := by omega
    have hab : a ≠ b := fun h => hxz (by rw [h])
    -- what stands at the two places
    have hpx : atL p (a : Int) = y := by
      have h1 := hcy.next 0 (by simp)
      have h2 : (0 + 1) % ((a : Int) :: y :: rest).length = 1 := Nat.mod_eq_of_lt (by simp)
      simp only [h2] at h1
      exact h1
    have hpz : atL p (b : Int) = a := by
      have hlen : ((a : Int) :: y :: rest).length = rest.length + 2 := by simp
      have h1 := hcy.next (rest.length + 1) (by rw [hlen]; omega)
      have h2 : (rest.length + 1 + 1) % ((a : Int) :: y :: rest).length = 0 := by rw [hlen]; exact Nat.mod_self _
      simp only [h2] at h1
      have h3 : ((a : Int) :: y :: rest)[rest.length + 1]'(by rw [hlen]; omega) = b := by
        rw [← hz, List.getLast_eq_getElem]
        simp
      rw [h3] at h1
      exact h1
    have hsame : ∀ w : Int, 0 ≤ w → w < p.length → w ≠ a → w ≠ b → atL (swapL p a b) w = atL p w := fun w h0 h1 h2 h3 => by
      obtain ⟨q, rfl⟩ : ∃ q : Nat, w = q := ⟨w.toNat, by omega⟩
      rw [at_swap hal hbl hab (by omega), if_neg (by omega), if_neg (by omega)]
    have hsa : atL (swapL p a b) (a : Int) = a := by rw [at_swap hal hbl hab hal, if_pos rfl, hpz]
    have hsb : atL (swapL p a b) (b : Int) = y := by rw [at_swap hal hbl hab hbl, if_neg (Ne.symm hab), if_pos rfl, hpx]
    have hpl : (swapL p a b).length = p.length := swapL_length p a b
    have hfl2 : l.flatten = l1.flatten ++ (((a : Int) :: y :: rest) ++ l2.flatten) := by rw [hl]; simp
    have hfn2 := hfn
    rw [hfl2, List.nodup_append] at hfn2
    have hfn3 := List.nodup_append.1 hfn2.2.1
    have hother : ∀ d, d ∈ l1 ∨ d ∈ l2 → ∀ w ∈ d, w ≠ a ∧ w ≠ b := by
      rintro d (hd | hd) w hw
      · have hwf : w ∈ l1.flatten := List.mem_flatten.2 ⟨d, hd, hw⟩
        exact ⟨fun h => hfn2.2.2 w hwf w (by rw [h]; simp) rfl, fun h => hfn2.2.2 w hwf w (by rw [h]; exact List.mem_append_left _ (List.mem_cons_of_mem _ hlm)) rfl⟩
      · have hwf : w ∈ l2.flatten := List.mem_flatten.2 ⟨d, hd, hw⟩
        exact ⟨fun h => hfn3.2.2 a (List.mem_cons_self ..) w hwf h.symm, fun h => hfn3.2.2 b (List.mem_cons_of_mem _ hlm) w hwf h.symm⟩
    have hD2 : Dec (swapL p a b) (l1 ++ [(a : Int)] :: (y :: rest) :: l2) := by
      refine ⟨ord_of_perm (by rw [hpl]; exact ord_le hD.ord) (by rw [hpl]; exact (ord_perm hD.ord).trans (swap_perm' hal hbl hab).symm), fun d hd => ?_, ?_⟩
      · rw [List.mem_append, List.mem_cons, List.mem_cons] at hd
        have oth : d ∈ l1 ∨ d ∈ l2 → IsCyc (swapL p a b) d := fun h => by
          have hdl : d ∈ l := by
            rw [hl, List.mem_append, List.mem_cons]
            rcases h with h | h
            · exact .inl h
            · exact .inr (.inr h)
          have hdc := hD.cyc d hdl
          exact cyc_same hpl hdc fun w hw => by
            have := hother d h w hw
            have h2 := hdc.in_ w hw
            exact hsame w h2.1 h2.2 this.1 this.2
        rcases hd with hd | rfl | rfl | hd
        · exact oth (.inl hd)
        · refine ⟨by simp, by simp, fun w hw => by rw [List.mem_singleton.1 hw, hpl]; exact hxin, fun j hj => ?_⟩
          simp only [List.length_singleton] at hj
          have : j = 0 := by omega
          subst this
          simpa using hsa
        · refine ⟨by simp, hnx.2, fun w hw => by rw [hpl]; exact hcy.in_ w (List.mem_cons_of_mem _ hw), fun j hj => ?_⟩
          by_cases hjl : j + 1 < (y :: rest).length
          · have h2 : (j + 1) % (y :: rest).length = j + 1 := Nat.mod_eq_of_lt hjl
            simp only [h2]
            have hw := List.getElem_mem hj
            have hwin := hcy.in_ _ (List.mem_cons_of_mem _ hw)
            have hwa : (y :: rest)[j] ≠ a := fun h => hnx.1 (h ▸ hw)
            have hwb : (y :: rest)[j] ≠ b := fun h => by
              rw [← hz, List.getLast_eq_getElem] at h
              have := nodup_getElem hnx.2 hj (by simp) h
              omega
            rw [hsame _ hwin.1 hwin.2 hwa hwb]
            have h3 := hcy.next (j + 1) (by simp at hj ⊢; omega)
            have h4 : (j + 1 + 1) % ((a : Int) :: y :: rest).length = j + 1 + 1 := Nat.mod_eq_of_lt (by simp at hjl ⊢; omega)
            simp only [h4] at h3
            simpa using h3
          · have hj2 : j = (y :: rest).length - 1 := by simp at hj hjl ⊢; omega
            have h2 : (j + 1) % (y :: rest).length = 0 := by
              have : j + 1 = (y :: rest).length := by simp at hj2 ⊢; omega
              rw [this]; exact Nat.mod_self _
            simp only [h2]
            have h3 : (y :: rest)[j] = b := by
              rw [← hz, List.getLast_eq_getElem]
              congr 1
            rw [h3, hsb]
            rfl
        · exact oth (.inr hd)
      · rw [hpl]
        have : (l1 ++ [(a : Int)] :: (y :: rest) :: l2).flatten = l.flatten := by rw [hl]; simp
        rw [this]
        exact hD.perm
    have hlt : l.length < p.length := by
      have h1 := flat_ge l1 fun d hd => (hD.cyc d (by rw [hl]; simp [hd])).ne
      have h2 := flat_ge l2 fun d hd => (hD.cyc d (by rw [hl]; simp [hd])).ne
      rw [← hfl, hfl2, hl]
      simp only [List.length_append, List.length_cons]
      omega
    have hl' : (l1 ++ [(a : Int)] :: (y :: rest) :: l2).length = l.length + 1 := by rw [hl]; simp; omega
    have ih := dec_parity (swapL p a b) (l1 ++ [(a : Int)] :: (y :: rest) :: l2) hD2 r hr (by rw [hpl]; exact hrl)
    rw [pick_swap (r := r) hal hbl hab] at ih
    have hpo := ord_pick hr hD.ord hrl.symm
    have hnd := ord_nodup hpo
    have hsi := swap_inv hnd hab (by rw [pickL_length]; exact hal) (by rw [pickL_length]; exact hbl)
    have hev : (evens l + evens (l1 ++ [(a : Int)] :: (y :: rest) :: l2)) % 2 = 1 := by
      rw [hl, evens_append, evens_append, evens_cons, evens_cons, evens_cons]
      simp only [List.length_cons, List.length_nil]
      by_cases h : (rest.length + 1) % 2 = 0
      · have h2 : ¬ (rest.length + 1 + 1) % 2 = 0 := by omega
        rw [if_pos h, if_neg h2, if_neg (by decide)]
        omega
      · have h2 : (rest.length + 1 + 1) % 2 = 0 := by omega
        rw [if_neg h, if_pos h2, if_neg (by decide)]
        omega
    omega
termination_by p.length - l.length
decreasing_by
  rw [hl', hpl]
  omega
end Go.Proofs.Ytcdeeppiljcddaa.AM
