/- Merged: Tc4 Tc5 Tc6 Tc7. Conditions: none. -/
import Derived.Test.YtgkdkjjohknfpaaTc
set_option linter.all false
section
namespace Go.Proofs.Ytgkdkjjohknfpaa.VM
set_option linter.unusedSectionVars false
set_option linter.unusedVariables false
open Go AM
theorem app5_ok {n : Nat} (h : n ≤ 100000) : (decide ((n + 1) * (40 + 1) ≤ 70368744177664) && decide (40 ≤ 1048576)) = true := by
  rw [decide_eq_true (by omega : (n + 1) * (40 + 1) ≤ 70368744177664)]
  rfl
theorem trim7 (r a i : Int) (z : Bool) (L : List Ins) (F : Fl) (hF : F.length = L.length) (hb : L.length ≤ 300) (x0 x1 x2 : Int) (xz : Bool) (xl : List T) : ∀ (m j : Nat) (K : List Ins) (at_ : List Int), m + j = L.length → at_.length = L.length → (∀ k, k < j → at_[k]? = some (atN F k : Int)) → K.length = atN F j →
    ∃ at2 : List Int, at2.length = L.length ∧ (∀ k, k < L.length → at2[k]? = some (atN F k : Int)) ∧
    L17_7 z (L.map insT) ((L.length : Nat) : Int) (j : Int) r a i (!K.isEmpty) (K.map insT) x0 x1 x2 xz xl r a i z (L.map insT) true (bitsL F) true (rchL F) true (ints at_) =
      L17_14 (((K ++ keepG (L.drop j) (F.drop j)).length : Nat) : Int) 0 r a i (!(K ++ keepG (L.drop j) (F.drop j)).isEmpty) ((K ++ keepG (L.drop j) (F.drop j)).map insT) x0 x1 x2 xz xl true (ints at2)
  | 0, j, K, at_, h, h1, h2, h3 => by
    have d : decide ((j : Int) < ((L.length : Nat) : Int)) = false := decide_eq_false (by omega)
    refine ⟨at_, h1, fun k hk => h2 k (by omega), ?_⟩
    have e : keepG (L.drop j) (F.drop j) = [] := by rw [List.drop_of_length_le (by omega)]; rfl
    rw [L17_7_eq, RL17_7, d, cf, e, List.append_nil, List.length_map]
  | m + 1, j, K, at_, h, h1, h2, h3 => by
    have d : decide ((j : Int) < ((L.length : Nat) : Int)) = true := decide_eq_true (by omega)
    have n0 : decide ((0 : Int) ≤ (j : Int)) = true := decide_eq_true (by omega)
    have n1 : decide ((j : Int) < ((rchL F).length : Int)) = true := decide_eq_true (by rw [rch_len]; omega)
    have n2 : decide ((j : Int) < ((ints at_).length : Int)) = true := decide_eq_true (by rw [ints_len]; omega)
    have hw : IntKind.i64.wrap ((j : Int) + 1) = ((j + 1 : Nat) : Int) := by rw [wrap64 (by omega) (by omega)]; simp
    have hlt : j < L.length := by omega
    have hltF : j < F.length := by omega
    have hg : (L.map insT)[j]? = some (insT L[j]) := by rw [List.getElem?_map, List.getElem?_eq_getElem hlt]; rfl
    have hle := at_le F j
    have hset : (ints at_).set j (T.int .i64 ((K.map insT).length : Int)) = ints (at_.set j (atN F j : Int)) := by
      unfold ints
      rw [List.map_set, List.length_map, h3]
    have hat : ∀ k, k < j + 1 → (at_.set j (atN F j : Int))[k]? = some (atN F k : Int) := by
      intro k hk
      rw [List.getElem?_set]
      by_cases e : j = k
      · rw [if_pos e, if_pos (by omega), e]
      · rw [if_neg e]; exact h2 k (by omega)
    have ih := fun K' h3' => trim7 r a i z L F hF hb x0 x1 x2 xz xl m (j + 1) K' (at_.set j (atN F j : Int)) (by omega) (by rw [List.length_set]; exact h1) hat h3'
    have hFj : F[j]? = some F[j] := List.getElem?_eq_getElem hltF
    have start : ∀ X, (L17_7 z (L.map insT) ((L.length : Nat) : Int) (j : Int) r a i (!K.isEmpty) (K.map insT) x0 x1 x2 xz xl r a i z (L.map insT) true (bitsL F) true (rchL F) true (ints at_) = X) ↔
        (bif (F[j]).isSome then L17_7 z (L.map insT) ((L.length : Nat) : Int) ((j + 1 : Nat) : Int) r a i (!K.isEmpty || true) (K.map insT ++ [insT L[j]]) x0 x1 x2 xz xl r a i z (L.map insT) true (bitsL F) true (rchL F) true (ints (at_.set j (atN F j : Int)))
          else L17_7 z (L.map insT) ((L.length : Nat) : Int) ((j + 1 : Nat) : Int) r a i (!K.isEmpty) (K.map insT) x0 x1 x2 xz xl r a i z (L.map insT) true (bitsL F) true (rchL F) true (ints (at_.set j (atN F j : Int)))) = X := by
      intro X
      rw [L17_7_eq, RL17_7, d, ct, needC_true n0, Int.toNat_natCast, getT_at hg]
      have hi2 : insT L[j] = .agg [.int .i64 (L[j]).op, .int .i64 (L[j]).a, .int .i64 (L[j]).b, .int .i64 (L[j]).c, .int .i64 (L[j]).n] := rfl
      rw [hi2, asA_agg, consT_cons, asI_int, consT_cons, asI_int, consT_cons, asI_int, consT_cons, asI_int, consT_cons, asI_int, endT_nil, n0, n2, bTA, needC_t, bTA, needC_t, setT_at _ (by rw [ints_len]; omega), hset, n1, needC_t, getT_at (rch_at hFj), asB_bool, hw, needC_true (app5_ok (by rw [List.length_map]; omega))]
    rw [List.drop_eq_getElem_cons hlt, List.drop_eq_getElem_cons hltF, keep_cons]
    cases ho : F[j] with
    | none =>
      rw [ho] at start hFj
      obtain ⟨at2, g1, g2, g3⟩ := ih K (by rw [at_skip F j hFj]; exact h3)
      refine ⟨at2, g1, g2, (start _).2 ?_⟩
      rw [Option.isSome_none, cf, cf]
      exact g3
    | some b =>
      rw [ho] at start hFj
      obtain ⟨at2, g1, g2, g3⟩ := ih (K ++ [L[j]]) (by rw [at_succ F j b hFj, List.length_append, h3]; rfl)
      refine ⟨at2, g1, g2, (start _).2 ?_⟩
      rw [Option.isSome_some, ct, ct, bOT]
      rw [List.append_assoc] at g3
      have e1 : (!(K ++ [L[j]]).isEmpty) = true := by cases K <;> rfl
      have e2 : (K ++ [L[j]]).map insT = K.map insT ++ [insT L[j]] := by rw [List.map_append]; rfl
      rw [e1, e2] at g3
      exact g3
theorem trim14 (F : Fl) (n : Nat) (r a i x0 x1 x2 : Int) (xz : Bool) (xl : List T) (at2 : List Int) (hat : ∀ k, k < n → at2[k]? = some (atN F k : Int)) (hl : at2.length = n) (K : List Ins) (hb : K.length ≤ 300)
    (h10 : ∀ x ∈ K, x.op = 10 → 0 ≤ x.a ∧ x.a < (n : Int)) (h11 : ∀ x ∈ K, x.op = 11 ∨ x.op = 12 → 0 ≤ x.c ∧ x.c < (n : Int)) : ∀ (m j : Nat), m + j = K.length →
    L17_14 ((K.length : Nat) : Int) (j : Int) r a i true ((((K.take j).map (reT F)) ++ K.drop j).map insT) x0 x1 x2 xz xl true (ints at2) = some (.tup [.t (cdT r a i true (K.map (reT F))), .t (.int .i64 0)], e0)
  | 0, j, h => by
    have d : decide ((j : Int) < ((K.length : Nat) : Int)) = false := decide_eq_false (by omega)
    rw [L17_14_eq, RL17_14, d, cf, List.drop_of_length_le (by omega), List.take_of_length_le (by omega), List.append_nil]
    rfl
  | m + 1, j, h => by
    have d : decide ((j : Int) < ((K.length : Nat) : Int)) = true := decide_eq_true (by omega)
    have hlt : j < K.length := by omega
    have n0 : decide ((0 : Int) ≤ (j : Int)) = true := decide_eq_true (by omega)
    have hlen : (((K.take j).map (reT F) ++ K.drop j).map insT).length = K.length := by
      rw [List.length_map, List.length_append, List.length_map, List.length_take, List.length_drop]
      omega
    have n1 : decide ((j : Int) < ((((K.take j).map (reT F) ++ K.drop j).map insT).length : Int)) = true := decide_eq_true (by rw [hlen]; omega)
    have hw : IntKind.i64.wrap ((j : Int) + 1) = ((j + 1 : Nat) : Int) := by rw [wrap64 (by omega) (by omega)]; simp
    have htl : ((K.take j).map (reT F)).length = j := by rw [List.length_map, List.length_take]; omega
    have hM : ((K.take j).map (reT F) ++ K.drop j)[j]? = some K[j] := by
      rw [List.getElem?_append_right (by omega), htl, Nat.sub_self, List.drop_eq_getElem_cons hlt]
      rfl
    have hg : ((((K.take j).map (reT F)) ++ K.drop j).map insT)[j]? = some (insT K[j]) := by rw [List.getElem?_map, hM]; rfl
    have hnext : ((((K.take j).map (reT F)) ++ K.drop j).map insT).set j (insT (reT F K[j])) = ((((K.take (j + 1)).map (reT F)) ++ K.drop (j + 1)).map insT) := by
      have this : (K.take j ++ [K[j]]).map (reT F) = (K.take j).map (reT F) ++ [reT F K[j]] := by rw [List.map_append]; rfl
      rw [← List.map_set, List.set_append_right _ _ (by omega), htl, Nat.sub_self, List.drop_eq_getElem_cons hlt, List.set_cons_zero, ← List.take_append_getElem hlt, this, List.append_assoc]
      rfl
    have ih := trim14 F n r a i x0 x1 x2 xz xl at2 hat hl K hb h10 h11 m (j + 1) (by omega)
    rw [← hnext] at ih
    have hc : insT K[j] = .agg [.int .i64 (K[j]).op, .int .i64 (K[j]).a, .int .i64 (K[j]).b, .int .i64 (K[j]).c, .int .i64 (K[j]).n] := rfl
    have c0 : (T.cells (insT K[j]))[0]? = some (.int .i64 (K[j]).op) := rfl
    have c1 : (T.cells (insT K[j]))[1]? = some (.int .i64 (K[j]).a) := rfl
    have c3 : (T.cells (insT K[j]))[3]? = some (.int .i64 (K[j]).c) := rfl
    rw [L17_14_eq, RL17_14, d, ct, n0, n1, bTA, needC_t, Int.toNat_natCast, getT_at hg, getT_at c0, asI_int, hw]
    by_cases e10 : (K[j]).op = 10
    · obtain ⟨q0, q1⟩ := h10 K[j] (List.getElem_mem hlt) e10
      have m0 : decide ((0 : Int) ≤ (K[j]).a) = true := decide_eq_true q0
      have m1 : decide ((K[j]).a < ((ints at2).length : Int)) = true := decide_eq_true (by rw [ints_len]; omega)
      have ga : (ints at2)[((K[j]).a).toNat]? = some (.int .i64 (atN F ((K[j]).a).toNat : Int)) := by
        unfold ints
        rw [List.getElem?_map, hat _ (by omega)]
        rfl
      have hre : reT F K[j] = ⟨(K[j]).op, (atN F ((K[j]).a).toNat : Int), (K[j]).b, (K[j]).c, (K[j]).n⟩ := by unfold reT; rw [decide_eq_true e10, ct]
      rw [decide_eq_true e10, ct, getT_at hg, getT_at c1, asI_int, m0, m1, bTA, needC_t, getT_at ga, asI_int, needC_t, getT_at hg, needC_true (b := decide (1 + 1 ≤ (T.cells (insT K[j])).length) && Nat.ble 2 5) rfl]
      rw [hre] at ih
      exact ih
    · rw [decide_eq_false e10, cf]
      by_cases e11 : (K[j]).op = 11
      · obtain ⟨q0, q1⟩ := h11 K[j] (List.getElem_mem hlt) (.inl e11)
        have m0 : decide ((0 : Int) ≤ (K[j]).c) = true := decide_eq_true q0
        have m1 : decide ((K[j]).c < ((ints at2).length : Int)) = true := decide_eq_true (by rw [ints_len]; omega)
        have ga : (ints at2)[((K[j]).c).toNat]? = some (.int .i64 (atN F ((K[j]).c).toNat : Int)) := by
          unfold ints
          rw [List.getElem?_map, hat _ (by omega)]
          rfl
        have hre : reT F K[j] = ⟨(K[j]).op, (K[j]).a, (K[j]).b, (atN F ((K[j]).c).toNat : Int), (K[j]).n⟩ := by unfold reT; rw [decide_eq_false e10, cf, decide_eq_true e11, bTO, ct]
        rw [decide_eq_true e11, ct, getT_at hg, getT_at c3, asI_int, m0, m1, bTA, needC_t, getT_at ga, asI_int, needC_t, getT_at hg, needC_true (b := decide (3 + 1 ≤ (T.cells (insT K[j])).length) && Nat.ble 2 5) rfl]
        rw [hre] at ih
        exact ih
      · rw [decide_eq_false e11, cf]
        by_cases e12 : (K[j]).op = 12
        · obtain ⟨q0, q1⟩ := h11 K[j] (List.getElem_mem hlt) (.inr e12)
          have m0 : decide ((0 : Int) ≤ (K[j]).c) = true := decide_eq_true q0
          have m1 : decide ((K[j]).c < ((ints at2).length : Int)) = true := decide_eq_true (by rw [ints_len]; omega)
          have ga : (ints at2)[((K[j]).c).toNat]? = some (.int .i64 (atN F ((K[j]).c).toNat : Int)) := by
            unfold ints
            rw [List.getElem?_map, hat _ (by omega)]
            rfl
          have hre : reT F K[j] = ⟨(K[j]).op, (K[j]).a, (K[j]).b, (atN F ((K[j]).c).toNat : Int), (K[j]).n⟩ := by unfold reT; rw [decide_eq_false e10, cf, decide_eq_true e12, bOT, ct]
          rw [decide_eq_true e12, ct, getT_at hg, getT_at c3, asI_int, m0, m1, bTA, needC_t, getT_at ga, asI_int, needC_t, getT_at hg, needC_true (b := decide (3 + 1 ≤ (T.cells (insT K[j])).length) && Nat.ble 2 5) rfl]
          rw [hre] at ih
          exact ih
        · have hre : reT F K[j] = K[j] := by unfold reT; rw [decide_eq_false e10, cf, decide_eq_false e11, decide_eq_false e12, bFO, cf]
          have hs : ((((K.take j).map (reT F)) ++ K.drop j).map insT).set j (insT K[j]) = ((((K.take j).map (reT F)) ++ K.drop j).map insT) := by
            refine List.ext_getElem? fun q => ?_
            rw [List.getElem?_set]
            by_cases e : j = q
            · rw [if_pos e, if_pos (by omega), ← e, hg]
            · rw [if_neg e]
          rw [hre, hs] at ih
          rw [decide_eq_false e12, cf]
          exact ih
end Go.Proofs.Ytgkdkjjohknfpaa.VM
end

section
namespace Go.Proofs.Ytgkdkjjohknfpaa.VM
set_option linter.unusedSectionVars false
set_option linter.unusedVariables false
open Go AM
theorem mem_keep {α : Type} : ∀ (l : List α) (F : Fl) (x : α), x ∈ keepG l F → x ∈ l
  | [], F, x, h => by cases F <;> exact absurd h (by simp [keepG])
  | y :: l, [], x, h => absurd h (by simp [keepG])
  | y :: l, o :: F, x, h => by
    rw [keep_cons] at h
    cases ho : o.isSome with
    | true =>
      rw [ho, ct] at h
      rcases List.mem_cons.1 h with rfl | h
      · simp
      · exact List.mem_cons_of_mem _ (mem_keep l F x h)
    | false => rw [ho, cf] at h; exact List.mem_cons_of_mem _ (mem_keep l F x h)
theorem trim17 (r a i : Int) (z : Bool) (L : List Ins) (hl : L.length ≤ 300) :
    (checkB r a i L = false ∧ vr 17 0 [.t (cdT r a i z L)] e0 = some (.tup [.t (cdT 0 0 0 false []), .t (.int .i64 1)], e0)) ∨
    (checkB r a i L = true ∧ ∃ F, FlowOf L F ∧ vr 17 0 [.t (cdT r a i z L)] e0 = some (.tup [.t (cdT r a i true (trimL L F)), .t (.int .i64 0)], e0)) := by
  rcases start33 r a i z L hl with ⟨h1, h2⟩ | ⟨h1, F, h2, h3⟩
  · left
    refine ⟨h1, ?_⟩
    unfold cdT at h2 ⊢
    rw [eq17, R17, h2, callK_some]
    rfl
  · right
    refine ⟨h1, F, h2, ?_⟩
    have hok := (check_iff r a i L).1 h1
    have hfl := Flow.of hok hl h2
    have h0 := at_lt (l := L) hfl.same hfl.zero
    have hkl := keep_len L F hfl.same
    have hle := at_le F L.length
    obtain ⟨at2, g1, g2, g3⟩ := trim7 r a i z L F hfl.same hl 0 0 0 false [] L.length 0 [] (List.replicate L.length 0) (by omega) List.length_replicate (fun k hk => absurd hk (Nat.not_lt_zero _)) (by rw [at_zero]; rfl)
    rw [List.drop_zero, List.drop_zero, List.nil_append] at g3
    have hne : (!(keepG L F).isEmpty) = true := by
      cases hk : keepG L F with
      | nil => rw [hk] at h0; exact absurd h0 (Nat.not_lt_zero _)
      | cons => rfl
    have h4 : ∀ n : Int, lim r a n 4 = n := fun n => by unfold lim; simp
    have g4 := trim14 F L.length r a i 0 0 0 false [] at2 g2 g1 (keepG L F) (by omega) (fun x hx e => by
      obtain ⟨_, hfa, _, _⟩ := fld_split r a _ _ (hok.may x (mem_keep L F x hx))
      have hk : (shOf x.op).k0 = 4 := by rw [e]; rfl
      rw [hk, h4, fldOk_iff] at hfa
      exact hfa) (fun x hx e => by
      obtain ⟨_, _, _, hfc⟩ := fld_split r a _ _ (hok.may x (mem_keep L F x hx))
      have hk : (shOf x.op).k2 = 4 := by rcases e with e | e <;> (rw [e]; rfl)
      rw [hk, h4, fldOk_iff] at hfc
      exact hfc) (keepG L F).length 0 (by omega)
    rw [List.take_zero, List.map_nil, List.nil_append, List.drop_zero] at g4
    rw [hne] at g3
    have hrep : ints (List.replicate L.length 0) = List.replicate L.length (T.int .i64 0) := by unfold ints; rw [List.map_replicate]
    have hf : fitsH (.tup [.nilp, (.t (.one (.int .i64)))]) [] (.tup [.ptr 500 0 0, .t (.int .i64 0)]) (flowS r a i z (L.map insT) F).blks = false := by rfl
    have hz : (!decide ((0 : Int) = 0)) = false := rfl
    have e1 : (((L.map insT).length : Int)).toNat = L.length := by rw [List.length_map]; omega
    have n1 : (decide (0 ≤ ((L.map insT).length : Int)) && decide (((L.map insT).length : Int) ≤ ((L.map insT).length : Int)) && decide (((L.map insT).length : Int) * (8 + 1) ≤ 70368744177664)) = true := by
      rw [List.length_map, decide_eq_true (by omega : (0 : Int) ≤ (L.length : Int)), decide_eq_true (Int.le_refl _), decide_eq_true (by omega : (L.length : Int) * (8 + 1) ≤ 70368744177664)]
      rfl
    unfold cdT at h3 ⊢
    rw [eq17, R17, h3, callK_some, hf, cf, asTup_tup, consV_cons, isPtr_ptr, consV_cons, asT_t, asI_int, endV_nil, consB_cons, asVar_var, consV_cons, asT_t, asI_int, consV_cons, asT_t, asI_int, consV_cons, asT_t, asI_int, consV_cons, asT_t, asL_list, consV_cons, isBuf_buf, consV_cons, isBuf_buf, endV_nil, consB_cons, asArr_arr, consB_cons, asArr_arr, endB_nil, hz, cf, needC_true n1, e1, ← hrep]
    rw [List.length_map]
    refine Eq.trans g3 ?_
    exact g4
theorem reach13 (r a i : Int) (z : Bool) (L : List Ins) (hl : L.length ≤ 300) (h1 : checkB r a i L = true) :
    ∃ F, FlowOf L F ∧ vr 13 0 [.t (cdT r a i z L)] e0 = some (.tup [.t (.list 1 true (rchL F)), .t (.int .i64 0)], e0) := by
  rcases start33 r a i z L hl with ⟨h2, _⟩ | ⟨_, F, h2, h3⟩
  · rw [h1] at h2; cases h2
  · refine ⟨F, h2, ?_⟩
    have hf : fitsH (.tup [.nilp, (.t (.one (.int .i64)))]) [] (.tup [.ptr 500 0 0, .t (.int .i64 0)]) (flowS r a i z (L.map insT) F).blks = false := by rfl
    have hz : (!decide ((0 : Int) = 0)) = false := rfl
    unfold cdT at h3 ⊢
    rw [eq13, R13, h3, callK_some, hf, cf, asTup_tup, consV_cons, isPtr_ptr, consV_cons, asT_t, asI_int, endV_nil, consB_cons, asVar_var, consV_cons, asT_t, asI_int, consV_cons, asT_t, asI_int, consV_cons, asT_t, asI_int, consV_cons, asT_t, asL_list, consV_cons, isBuf_buf, consV_cons, isBuf_buf, endV_nil, consB_cons, asArr_arr, consB_cons, asArr_arr, endB_nil, hz, cf]
end Go.Proofs.Ytgkdkjjohknfpaa.VM
end

section
namespace Go.Proofs.Ytgkdkjjohknfpaa.VM
set_option linter.unusedSectionVars false
set_option linter.unusedVariables false
open Go AM
def badB (i : Int) (x : Ins) : Bool := (decide (x.op = 7) || decide (x.op = 9)) && decide (x.a < i)
def wrIx (i : Int) : List Ins → Nat → Int
  | [], _ => -1
  | x :: l, j => bif badB i x then (j : Int) else wrIx i l (j + 1)
theorem wr_any (i : Int) : ∀ (l : List Ins) (j : Nat), decide (0 ≤ wrIx i l j) = l.any (badB i)
  | [], _ => rfl
  | x :: l, j => by
    rw [List.any_cons, wrIx]
    cases badB i x with
    | true => exact decide_eq_true (Int.natCast_nonneg j)
    | false => rw [cf, bFO]; exact wr_any i l (j + 1)
abbrev stC (r a i : Int) (z : Bool) (l : List T) : Bs := [(0, .var [.t (.int .i64 r), .t (.int .i64 a), .t (.int .i64 i), .t (.list 5 z l)])]
theorem bad41 (r a i : Int) (z : Bool) (l : List T) (x : Ins) : vr 41 0 [.t (insT x), .ptr 0 0 0] ⟨stC r a i z l, []⟩ = some (.t (.bool (badB i x)), ⟨stC r a i z l, [500]⟩) := by
  unfold insT badB
  rw [eq41, R41]
  cases decide (x.op = 7)
  · rw [cf]
    cases decide (x.op = 9)
    · rw [cf, bFO, bFA]
    · rw [ct, bFO, bTA]
  · rw [ct, bTO, bTA]
theorem L59v1_spec (r a i : Int) (z z2 : Bool) (c : List T) (l : List Ins) (hb : l.length ≤ 1000) : ∀ (m j : Nat), m + j = l.length →
    L59v1_2 z (l.map insT) ((l.length : Nat) : Int) (j : Int) r a i z2 c = some (.t (.int .i64 (wrIx i (l.drop j) j)), ⟨stC r a i z2 c, [500]⟩)
  | 0, j, h => by
    have d : decide ((j : Int) < ((l.length : Nat) : Int)) = false := decide_eq_false (by omega)
    rw [L59v1_2_eq, RL59v1_2, d, cf, List.drop_of_length_le (by omega)]
    rfl
  | m + 1, j, h => by
    have d : decide ((j : Int) < ((l.length : Nat) : Int)) = true := decide_eq_true (by omega)
    have n0 : decide ((0 : Int) ≤ (j : Int)) = true := decide_eq_true (by omega)
    have hw : IntKind.i64.wrap ((j : Int) + 1) = ((j + 1 : Nat) : Int) := by rw [wrap64 (by omega) (by omega)]; simp
    have hlt : j < l.length := by omega
    have hg : (l.map insT)[j]? = some (insT l[j]) := by rw [List.getElem?_map, List.getElem?_eq_getElem hlt]; rfl
    have h41 := bad41 r a i z2 c l[j]
    have ih := L59v1_spec r a i z z2 c l hb m (j + 1) (by omega)
    rw [L59v1_2_eq, RL59v1_2, d, ct, needC_true n0, Int.toNat_natCast, getT_at hg, List.drop_eq_getElem_cons hlt, wrIx]
    have hi2 : insT l[j] = .agg [.int .i64 (l[j]).op, .int .i64 (l[j]).a, .int .i64 (l[j]).b, .int .i64 (l[j]).c, .int .i64 (l[j]).n] := rfl
    rw [hi2] at h41 ⊢
    rw [asA_agg, consT_cons, asI_int, consT_cons, asI_int, consT_cons, asI_int, consT_cons, asI_int, consT_cons, asI_int, endT_nil, h41, callK_some, asT_t, asB_bool, consB_cons, asVar_var, consV_cons, asT_t, asI_int, consV_cons, asT_t, asI_int, consV_cons, asT_t, asI_int, consV_cons, asT_t, asL_list, endV_nil, endB_nil, hw]
    cases badB i l[j] with
    | true => rfl
    | false => rw [cf, cf]; exact ih
theorem valid14 (r a i : Int) (z : Bool) (L : List Ins) (hl : L.length ≤ 300) :
    (checkB r a i L = false ∧ vr 14 0 [.t (cdT r a i z L)] e0 = some (.t (.int .i64 1), e0)) ∨
    (checkB r a i L = true ∧ ∃ F, FlowOf L F ∧ vr 14 0 [.t (cdT r a i z L)] e0 = some (.t (.int .i64 (bif decide (0 < ((askL L F 0).length : Int)) then 7 else bif L.any (badB i) then 3 else 0)), e0)) := by
  rcases unset25 r a i z L hl with ⟨h1, h2⟩ | ⟨h1, F, h2, h3⟩
  · left
    refine ⟨h1, ?_⟩
    unfold cdT at h2 ⊢
    rw [eq14, R14, h2, callK_some]
    rfl
  · right
    refine ⟨h1, F, h2, ?_⟩
    have hz : (!decide ((0 : Int) = 0)) = false := rfl
    unfold cdT at h3 ⊢
    rw [eq14, R14, h3, callK_some]
    unfold numsV
    rw [asTup_tup, consV_cons, asT_t, asL_list, consV_cons, asT_t, asI_int, endV_nil, endB_nil, hz, cf, ints_len]
    cases decide (0 < ((askL L F 0).length : Int)) with
    | true => rfl
    | false =>
      have h59 := L59v1_spec r a i z z (L.map insT) L (by omega) L.length 0 (by omega)
      rw [List.drop_zero] at h59
      rw [cf, cf, eq40v1, R40v1, eq59v1, R59v1, List.length_map]
      have h0 : L59v1_2 z (L.map insT) (L.length : Int) 0 r a i z (L.map insT) = L59v1_2 z (L.map insT) (L.length : Int) ((0 : Nat) : Int) r a i z (L.map insT) := rfl
      rw [h0, h59, callK_some, asT_t, asI_int, consB_cons, asVar_var, consV_cons, asT_t, asI_int, consV_cons, asT_t, asI_int, consV_cons, asT_t, asI_int, consV_cons, asT_t, asL_list, endV_nil, endB_nil, callK_some, asT_t, asB_bool, consB_cons, asVar_var, consV_cons, asT_t, asI_int, consV_cons, asT_t, asI_int, consV_cons, asT_t, asI_int, consV_cons, asT_t, asL_list, endV_nil, endB_nil, wr_any]
      cases L.any (badB i) <;> rfl
theorem ask_nil : ∀ (L : List Ins) (F : Fl) (j : Nat), F.length = L.length → (askL L F j = [] ↔ ∀ k (h : k < L.length) b, F[k]? = some (some b) → asksB L[k] b = false)
  | [], F, j, _ => ⟨fun _ k h => absurd h (Nat.not_lt_zero _), fun _ => by unfold askL; rfl⟩
  | x :: L, [], j, h => by simp at h
  | x :: L, o :: F, j, h => by
    have ih := ask_nil L F (j + 1) (by simpa using h)
    rw [askL_cons, List.append_eq_nil_iff, ih]
    constructor
    · rintro ⟨h1, h2⟩ k hk b hb
      cases k with
      | zero =>
        have : o = some b := by simpa using hb
        subst this
        rw [Option.isSome_some, bTA, Option.getD_some] at h1
        show asksB x b = false
        cases hx : asksB x b with
        | true => rw [hx] at h1; cases h1
        | false => rfl
      | succ k => exact h2 k (by simpa using hk) b (by simpa using hb)
    · intro h1
      refine ⟨?_, fun k hk b hb => h1 (k + 1) (by simpa using hk) b (by simpa using hb)⟩
      cases o with
      | none => rfl
      | some b =>
        have h2 : asksB x b = false := h1 0 (by simp) b rfl
        rw [Option.isSome_some, bTA, Option.getD_some, h2]
        rfl
theorem trim_asks {r a i : Int} {L : List Ins} {F : Fl} (h : Flow r a i L F) (hn : askL L F 0 = []) : askL (trimL L F) (keepG F F) 0 = [] := by
  have hkl := keep_len L F h.same
  have hkf : (keepG F F).length = (trimL L F).length := by rw [keep_len F F rfl, trim_len h, hkl, h.same]
  rw [ask_nil L F 0 h.same] at hn
  rw [ask_nil _ _ 0 hkf]
  intro p hp b hb
  obtain ⟨j, b2, hj, hb2, h1, h2⟩ := trim_of h hp
  have e : (trimL L F)[p] = reT F L[j] := by rw [List.getElem?_eq_getElem hp] at h2; exact Option.some.inj h2
  have h3 := keep_at F F j (some b2) b2 hb2 hb2
  rw [h1, hb] at h3
  have e2 : b = b2 := by cases h3; rfl
  subst e2
  rw [e]
  unfold asksB
  rw [re_reads]
  exact hn j hj b hb2
theorem trim_bad {r a i : Int} {L : List Ins} {F : Fl} (h : Flow r a i L F) (hn : L.any (badB i) = false) : (trimL L F).any (badB i) = false := by
  rw [List.any_eq_false] at hn ⊢
  intro y hy
  unfold trimL at hy
  obtain ⟨x, hx, rfl⟩ := List.mem_map.1 hy
  have hm := mem_keep L F x hx
  have h1 := hn x hm
  have : badB i (reT F x) = badB i x := by
    unfold badB
    rw [(re_op F x).1]
    by_cases e : x.op = 10
    · rw [e]; rfl
    · have : (reT F x).a = x.a := by
        unfold reT
        rw [decide_eq_false e, cf]
        cases decide (x.op = 11) || decide (x.op = 12) <;> rfl
      rw [this]
  rw [this]
  exact h1
end Go.Proofs.Ytgkdkjjohknfpaa.VM
end

section
namespace Go.Proofs.Ytgkdkjjohknfpaa.VM
set_option linter.unusedSectionVars false
set_option linter.unusedVariables false
open Go AM
def eqIns (x y : Ins) : Bool := decide (x.op = y.op) && (decide (x.a = y.a) && (decide (x.b = y.b) && (decide (x.c = y.c) && (decide (x.n = y.n) && true))))
theorem eqIns_iff (x y : Ins) : eqIns x y = true ↔ x = y := by
  obtain ⟨a, b, c, d, e⟩ := x
  obtain ⟨a', b', c', d', e'⟩ := y
  unfold eqIns
  simp [Ins.mk.injEq]
def eqLs : List Ins → List Ins → Bool
  | x :: xs, y :: ys => eqIns x y && eqLs xs ys
  | _, _ => true
def sameL (l m : List Ins) : Bool := decide (l.length = m.length) && eqLs l m
theorem eqLs_iff : ∀ (l m : List Ins), l.length = m.length → (eqLs l m = true ↔ l = m)
  | [], [], _ => by simp [eqLs]
  | [], _ :: _, h => by simp at h
  | _ :: _, [], h => by simp at h
  | x :: xs, y :: ys, h => by
    have ih := eqLs_iff xs ys (by simpa using h)
    unfold eqLs
    rw [Bool.and_eq_true, eqIns_iff, ih, List.cons.injEq]
theorem sameL_iff (l m : List Ins) : sameL l m = true ↔ l = m := by
  unfold sameL
  rw [Bool.and_eq_true, decide_eq_true_eq]
  constructor
  · rintro ⟨h1, h2⟩; exact (eqLs_iff l m h1).1 h2
  · rintro rfl; exact ⟨rfl, (eqLs_iff l l rfl).2 rfl⟩
theorem eqLoop_spec (z1 z2 : Bool) (a b : List Ins) (hl : a.length = b.length) (hb : a.length ≤ 9223372036854775806) : ∀ (m k : Nat), m + k = a.length →
    L45_4 z1 (a.map insT) z2 (b.map insT) ((a.map insT).length : Int) (k : Int) = some (.t (.bool (eqLs (a.drop k) (b.drop k))), e0)
  | 0, k, h => by
    have d : decide ((k : Int) < ((a.map insT).length : Int)) = false := decide_eq_false (by rw [List.length_map]; omega)
    rw [L45_4_eq, RL45_4, d, cf, List.drop_of_length_le (by omega)]
    rfl
  | m + 1, k, h => by
    have hk : k < a.length := by omega
    have hk2 : k < b.length := by omega
    have d : decide ((k : Int) < ((a.map insT).length : Int)) = true := decide_eq_true (by rw [List.length_map]; omega)
    have n0 : decide ((0 : Int) ≤ (k : Int)) = true := decide_eq_true (by omega)
    have hw : IntKind.i64.wrap ((k : Int) + 1) = ((k + 1 : Nat) : Int) := by rw [wrap64 (by omega) (by omega)]; simp
    rw [L45_4_eq, RL45_4, d, ct, needC_true n0, Int.toNat_natCast, ins_at hk]
    unfold insT
    rw [asA_agg, consT_cons, asI_int, consT_cons, asI_int, consT_cons, asI_int, consT_cons, asI_int, consT_cons, asI_int, endT_nil, needC_true n0]
    have hg := ins_at (R := V × St) hk2
    unfold insT at hg
    have ih := eqLoop_spec z1 z2 a b hl hb m (k + 1) (by omega)
    unfold insT at ih
    rw [hg, asA_agg, consT_cons, asI_int, consT_cons, asI_int, consT_cons, asI_int, consT_cons, asI_int, consT_cons, asI_int, endT_nil, hw, ih, List.drop_eq_getElem_cons hk, List.drop_eq_getElem_cons hk2]
    have e : eqLs (a[k] :: a.drop (k + 1)) (b[k] :: b.drop (k + 1)) = (eqIns a[k] b[k] && eqLs (a.drop (k + 1)) (b.drop (k + 1))) := rfl
    rw [e]
    unfold eqIns
    cases (decide (a[k].op = b[k].op) && (decide (a[k].a = b[k].a) && (decide (a[k].b = b[k].b) && (decide (a[k].c = b[k].c) && (decide (a[k].n = b[k].n) && true))))) with
    | true => rw [bNT, cf, bTA]
    | false => rw [bNF, ct, bFA]
theorem same19 (r a i r' a' i' : Int) (z z' : Bool) (l l' : List Ins) (hb : l.length ≤ 9223372036854775806) (hb' : l'.length ≤ 9223372036854775806) : vr 19 0 [.t (cdT r a i z l), .t (cdT r' a' i' z' l')] e0 = some (.t (.bool ((decide (r = r') && (decide (a = a') && (decide (i = i') && true))) && sameL l l')), e0) := by
  unfold cdT
  rw [eq19, R19]
  cases (decide (r = r') && (decide (a = a') && (decide (i = i') && true))) with
  | false => rfl
  | true =>
    have e1 : decide (((l.map insT).length : Int) = ((l'.map insT).length : Int)) = decide (l.length = l'.length) := decide_eq_decide.2 (by rw [List.length_map, List.length_map]; omega)
    rw [ct, bTA, eq45, R45, e1]
    unfold sameL
    by_cases h : l.length = l'.length
    · have hs := eqLoop_spec z z' l l' h hb l.length 0 (by omega)
      have h00 : ((0 : Nat) : Int) = 0 := rfl
      rw [h00, List.drop_zero, List.drop_zero] at hs
      rw [decide_eq_true h, bNT, cf, hs, callK_some, asT_t, asB_bool, endB_nil, bTA]
    · rw [decide_eq_false h, bNF, ct, callK_some, asT_t, asB_bool, endB_nil, bFA]
theorem insU (x : Ins) : insT x = .agg [.int .i64 x.op, .int .i64 x.a, .int .i64 x.b, .int .i64 x.c, .int .i64 x.n] := rfl
theorem L5_22_spec (pz : Bool) (ps : List Bool) (r a i : Int) (z : Bool) (L : List Ins) (F : Fl) (h : Flow r a i L F) (hp : ps.length ≤ 500) : ∀ (m k p : Nat) (b : Bt), m + k = ps.length → F[p]? = some (some b) →
    L5_22 true (p : Int) (atN F p : Int) pz (ps.map T.bool) ((ps.length : Nat) : Int) (k : Int) r a i z (L.map insT) r a i true ((trimL L F).map insT) = some (.t (.bool true), e0)
  | 0, k, p, b, hk, hb => by
    have d : decide ((k : Int) < ((ps.length : Nat) : Int)) = false := decide_eq_false (by omega)
    rw [L5_22_eq, RL5_22, d, cf]
  | m + 1, k, p, b, hk, hb => by
    obtain ⟨hj, hn⟩ := h.next hb
    have d : decide ((k : Int) < ((ps.length : Nat) : Int)) = true := decide_eq_true (by omega)
    have n0 : decide ((0 : Int) ≤ (k : Int)) = true := decide_eq_true (by omega)
    have hw : IntKind.i64.wrap ((k : Int) + 1) = ((k + 1 : Nat) : Int) := by rw [wrap64 (by omega) (by omega)]; simp
    have hkl : k < ps.length := by omega
    have gk : (ps.map T.bool)[k]? = some (.bool ps[k]) := by rw [List.getElem?_map, List.getElem?_eq_getElem hkl]; rfl
    have hlt := at_lt (l := L) h.same hb
    rw [← trim_len h] at hlt
    have d1 : decide ((p : Int) < 0) = false := decide_eq_false (by omega)
    have d2 : decide (((L.map insT).length : Int) ≤ (p : Int)) = false := decide_eq_false (by rw [List.length_map]; omega)
    have d3 : decide ((atN F p : Int) < 0) = false := decide_eq_false (by omega)
    have d4 : decide ((((trimL L F).map insT).length : Int) ≤ (atN F p : Int)) = false := decide_eq_false (by rw [List.length_map]; omega)
    have np : decide ((0 : Int) ≤ (p : Int)) = true := decide_eq_true (by omega)
    have nt : decide ((0 : Int) ≤ (atN F p : Int)) = true := decide_eq_true (by omega)
    have g1 : (L.map insT)[p]? = some (insT L[p]) := by rw [List.getElem?_map, List.getElem?_eq_getElem hj]; rfl
    have g2 : ((trimL L F).map insT)[atN F p]? = some (insT (reT F L[p])) := by rw [List.getElem?_map, trim_at h hb hj]; rfl
    have w1 := writes16 L[p]
    have w2 := writes16 (reT F L[p])
    have r1 := reads15 L[p]
    have r2 := reads15 (reT F L[p])
    have x1 := next17 L[p] (p : Int)
    have x2 := next17 (reT F L[p]) (atN F p : Int)
    obtain ⟨o1, o2, o3⟩ := re_op F L[p]
    obtain ⟨v1, v2⟩ := re_writes F L[p]
    have hwa : (bif writesB (reT F L[p]) then (reT F L[p]).a else 0) = (bif writesB L[p] then (L[p]).a else 0) := by
      rw [v1]
      cases hw : writesB L[p] with
      | true => rw [ct, ct, v2 hw]
      | false => rfl
    have hrl := reads_len L[p]
    have heq := equal20 (!(readsL L[p]).isEmpty) (!(readsL L[p]).isEmpty) (readsL L[p]) (by omega)
    have hnx := re_next h.ok (List.getElem?_eq_getElem hj) hb h.len
    have go : ∀ q, q ∈ nextL L[p] (p : Int) → L5_22 true q (atN F q.toNat : Int) pz (ps.map T.bool) ((ps.length : Nat) : Int) ((k + 1 : Nat) : Int) r a i z (L.map insT) r a i true ((trimL L F).map insT) = some (.t (.bool true), e0) := by
      intro q hq
      obtain ⟨n, rfl, _, c, hc, _⟩ := hn q hq
      rw [Int.toNat_natCast]
      exact L5_22_spec pz ps r a i z L F h hp m (k + 1) n c (by omega) hc
    rw [hwa, v1] at w2
    rw [re_reads] at r2
    rw [hnx] at x2
    rw [insU] at w1 w2 r1 r2 x1 x2
    have z0 : (!decide ((reT F L[p]).op = (reT F L[p]).op)) = false := by rw [decide_eq_true rfl]; rfl
    rw [L5_22_eq, RL5_22, d, ct, needC_true n0, Int.toNat_natCast, getT_at gk, asB_bool, d1, cf, d2, cf, d3, cf, d4, cf, needC_true np, Int.toNat_natCast, getT_at g1, insU, asA_agg, consT_cons, asI_int, consT_cons, asI_int, consT_cons, asI_int, consT_cons, asI_int, consT_cons, asI_int, endT_nil, needC_true nt, Int.toNat_natCast, getT_at g2, insU, asA_agg, consT_cons, asI_int, consT_cons, asI_int, consT_cons, asI_int, consT_cons, asI_int, consT_cons, asI_int, endT_nil,
      w1, callK_some, asTup_tup, consV_cons, asT_t, asI_int, consV_cons, asT_t, asB_bool, endV_nil, endB_nil, w2, callK_some, asTup_tup, consV_cons, asT_t, asI_int, consV_cons, asT_t, asB_bool, endV_nil, endB_nil]
    have y1 : (!decide ((L[p]).op = (reT F L[p]).op)) = false := by rw [o1, decide_eq_true rfl]; rfl
    have y2 : (!decide ((L[p]).n = (reT F L[p]).n)) = false := by rw [o3, decide_eq_true rfl]; rfl
    have y3 : ∀ v : Int, (!decide (v = v)) = false := fun v => by rw [decide_eq_true rfl]; rfl
    have y4 : ∀ v : Bool, (!(v == v)) = false := fun v => by cases v <;> rfl
    rw [y1, cf, y2, cf, y3, cf, y4, cf, r1, callK_some]
    unfold numsV
    rw [asT_t, asL_list, endB_nil, r2, callK_some]
    unfold numsV
    rw [asT_t, asL_list, endB_nil, heq, callK_some, asT_t, asB_bool, endB_nil, bNT, cf, x1, callK_some]
    unfold numsV
    rw [asT_t, asL_list, endB_nil, x2, callK_some]
    unfold numsV
    rw [asT_t, asL_list, endB_nil, ints_len, ints_len, List.length_map, y3, cf]
    cases hns : nextL L[p] (p : Int) with
    | nil => rfl
    | cons q0 qs =>
      rw [hns] at go
      have e0' : decide ((((q0 :: qs).length : Nat) : Int) = 0) = false := decide_eq_false (by rw [List.length_cons]; omega)
      have ga : (ints (q0 :: qs))[((0 : Int)).toNat]? = some (.int .i64 q0) := rfl
      have gb : (ints ((q0 :: qs).map fun k => (atN F k.toNat : Int)))[((0 : Int)).toNat]? = some (.int .i64 (atN F q0.toNat : Int)) := rfl
      have hg0 := go q0 (by simp)
      rw [e0', cf, needC_true (b := decide ((0 : Nat) ≤ 0)) rfl, getT_at ga, asI_int, needC_true (b := decide ((0 : Nat) ≤ 0)) rfl, getT_at gb, asI_int, hw]
      cases ps[k] with
      | false => rw [cf]; exact hg0
      | true =>
        rw [ct]
        cases qs with
        | nil => exact hg0
        | cons q1 qs =>
          have e1' : decide ((1 : Int) < (((q0 :: q1 :: qs).length : Nat) : Int)) = true := decide_eq_true (by simp only [List.length_cons]; omega)
          have gc : (ints (q0 :: q1 :: qs))[((1 : Int)).toNat]? = some (.int .i64 q1) := rfl
          have gd : (ints ((q0 :: q1 :: qs).map fun k => (atN F k.toNat : Int)))[((1 : Int)).toNat]? = some (.int .i64 (atN F q1.toNat : Int)) := rfl
          rw [e1', ct, needC_true (b := decide ((0 : Nat) ≤ 1)) rfl, getT_at gc, asI_int, needC_true (b := decide ((0 : Nat) ≤ 1)) rfl, getT_at gd, asI_int]
          exact go q1 (by simp)
theorem flow_eq {r a i : Int} {L : List Ins} {F F1 : Fl} (hok : Okc r a i L) (hl : L.length ≤ 300) (hF : FlowOf L F) (hF1 : FlowOf L F1) : F1 = F := by
  have h := Flow.of hok hl hF
  have f1 := Flow.of hok hl hF1
  have a1 : LowT F F1 := FlowOf.low (fine_of hok hl) hF1 h.closed ⟨(0, 0), h.zero, SubB.refl _⟩
  have a2 : LowT F1 F := FlowOf.low (fine_of hok hl) hF f1.closed ⟨(0, 0), f1.zero, SubB.refl _⟩
  have l1 := f1.same
  have l2 := h.same
  refine List.ext_getElem? fun q => ?_
  cases e1 : F1[q]? with
  | none =>
    rw [List.getElem?_eq_none_iff] at e1
    rw [List.getElem?_eq_none (by omega)]
  | some o1 =>
    cases e2 : F[q]? with
    | none =>
      rw [List.getElem?_eq_none_iff] at e2
      rw [List.getElem?_eq_none (by omega)] at e1
      cases e1
    | some o2 =>
      cases o1 with
      | none =>
        cases o2 with
        | none => rfl
        | some c =>
          obtain ⟨d, e3, _⟩ := a2 q c e2
          rw [e1] at e3
          cases e3
      | some c =>
        obtain ⟨d, e3, e4⟩ := a1 q c e1
        rw [e2] at e3
        cases e3
        obtain ⟨d2, e5, e6⟩ := a2 q d e2
        rw [e1] at e5
        cases e5
        rw [e6.anti e4]
theorem L5_12_spec (pz : Bool) (ps : List Bool) (r a i : Int) (z : Bool) (L : List Ins) (F : Fl) (hF : FlowOf L F) (hc : checkB r a i L = true) (h : Flow r a i L F) (hp : ps.length ≤ 500) (G : Fl) (hG : AllR G) : ∀ (m k : Nat), m + k = G.length → G.length ≤ 300 →
    L5_12 pz (ps.map T.bool) true true (rchL G) ((G.length : Nat) : Int) (k : Int) r a i z (L.map insT) r a i true ((trimL L F).map insT) = some (.t (.bool true), e0)
  | m + 1, k, hk, hl => by
    have d : decide ((k : Int) < ((G.length : Nat) : Int)) = true := decide_eq_true (by omega)
    have n0 : decide ((0 : Int) ≤ (k : Int)) = true := decide_eq_true (by omega)
    have hw : IntKind.i64.wrap ((k : Int) + 1) = ((k + 1 : Nat) : Int) := by rw [wrap64 (by omega) (by omega)]; simp
    have hkl : k < G.length := by omega
    obtain ⟨b, hb⟩ := hG G[k] (List.getElem_mem hkl)
    have g1 := rch_at (List.getElem?_eq_getElem hkl)
    rw [hb] at g1
    rw [L5_12_eq, RL5_12, d, ct, needC_true n0, Int.toNat_natCast, getT_at g1, asB_bool, Option.isSome_some, bNT, cf, hw]
    exact L5_12_spec pz ps r a i z L F hF hc h hp G hG m (k + 1) (by omega) hl
  | 0, k, hk, hl => by
    have d : decide ((k : Int) < ((G.length : Nat) : Int)) = false := decide_eq_false (by omega)
    have hend := L5_22_spec pz ps r a i z L F h hp ps.length 0 0 (0, 0) (by omega) h.zero
    rw [at_zero] at hend
    have hend : L5_22 true 0 0 pz (ps.map T.bool) (((ps.map T.bool).length : Nat) : Int) 0 r a i z (L.map insT) r a i true ((trimL L F).map insT) = some (.t (.bool true), e0) := by
      rw [List.length_map]
      exact hend
    have hl2 : (trimL L F).length ≤ 300 := by
      have hle := at_le F L.length
      have hkl := keep_len L F h.same
      have := h.len
      rw [trim_len h]
      omega
    have hok2 := (check_iff r a i (trimL L F)).2 (trim_ok h)
    rw [L5_12_eq, RL5_12, d, cf]
    rcases valid14 r a i z L h.len with ⟨h1, _⟩ | ⟨_, F1, hF1, h2⟩
    · rw [hc] at h1; cases h1
    · rcases valid14 r a i true (trimL L F) hl2 with ⟨h3, _⟩ | ⟨_, F2, hF2, h4⟩
      · rw [hok2] at h3; cases h3
      · have e2 := trim_flow h hF hF2
        subst e2
        have fl1 : F1 = F := flow_eq h.ok h.len hF hF1
        subst fl1
        unfold cdT at h2 h4
        rw [h2, callK_some, asT_t, asI_int, endB_nil]
        cases hx : decide ((bif decide (0 < ((askL L F1 0).length : Int)) then (7 : Int) else bif L.any (badB i) then 3 else 0) = 0) with
        | false => rw [cf]; exact hend
        | true =>
          have hx := of_decide_eq_true hx
          have hask : askL L F1 0 = [] := by
            cases hq : askL L F1 0 with
            | nil => rfl
            | cons q qs =>
              rw [hq] at hx
              have : decide (0 < (((q :: qs).length : Nat) : Int)) = true := decide_eq_true (by rw [List.length_cons]; omega)
              rw [this, ct] at hx
              exact absurd hx (by decide)
          have hbad : L.any (badB i) = false := by
            cases hq : L.any (badB i) with
            | false => rfl
            | true =>
              rw [hq, hask] at hx
              have hx : (3 : Int) = 0 := hx
              exact absurd hx (by decide)
          rw [trim_asks h hask, trim_bad h hbad] at h4
          rw [ct, h4, callK_some, asT_t, asI_int, endB_nil]
          exact hend
theorem trims_spec (x0 : T) (f0 : FitT codeTy true x0) (x1 : T) (f1 : FitT [.list [.bool] false] false x1) : ∃ st, vr 5 0 [.t x0, .t x1] ⟨[], []⟩ = some (.t (.bool true), st) := by
  obtain ⟨r, a, i, z, L, rfl, _, _, _⟩ := code_of f0
  obtain ⟨pz, ps, rfl, _⟩ := picks_of f1
  refine ⟨e0, ?_⟩
  have h8 := live8
  have hf := few13 r a i z L
  have hu : ∀ r a i z L, cdT r a i z L = .agg [.int .i64 r, .int .i64 a, .int .i64 i, .list 5 z (L.map insT)] := fun _ _ _ _ _ => rfl
  rw [hu] at hf ⊢
  rw [eq5, R5, h8, callK_some, asT_t, asB_bool, endB_nil, hf, callK_some, asT_t, asB_bool, endB_nil]
  by_cases hl : L.length ≤ 300
  · rw [decide_eq_true hl, bNT, cf]
    by_cases hp : ps.length ≤ 500
    · have hd : decide ((500 : Int) < ((ps.map T.bool).length : Int)) = false := decide_eq_false (by rw [List.length_map]; omega)
      rw [hd, cf]
      rcases trim17 r a i z L hl with ⟨h1, h2⟩ | ⟨h1, F, hF, h2⟩
      · rw [hu, hu] at h2
        rw [h2, callK_some]
        rfl
      · have hok := (check_iff r a i L).1 h1
        have h := Flow.of hok hl hF
        have hle := at_le F L.length
        have hkl := keep_len L F h.same
        have hl2 : (trimL L F).length ≤ 300 := by rw [trim_len h]; omega
        have hc2 := (check_iff r a i (trimL L F)).2 (trim_ok h)
        obtain ⟨G, hG, h3⟩ := reach13 r a i true (trimL L F) hl2 hc2
        have eG := trim_flow h hF hG
        subst eG
        have h5 := check14 r a i true (trimL L F)
        have hz : (!decide ((0 : Int) = 0)) = false := rfl
        rcases trim17 r a i true (trimL L F) hl2 with ⟨h6, _⟩ | ⟨_, G2, hG2, h7⟩
        · rw [hc2] at h6; cases h6
        · have eG2 := trim_flow h hF hG2
          subst eG2
          rw [trim_trim h] at h7
          have hs := same19 r a i r a i true true (trimL L F) (trimL L F) (by omega) (by omega)
          rw [hc2, ct] at h5
          rw [hu, hu] at h2
          rw [hu] at h7
          rw [hu] at h3 h5
          rw [hu] at hs
          have hal : AllR (keepG F F) := keep_allR F F rfl
          have hgl : (keepG F F).length ≤ 300 := by rw [keep_len F F rfl, h.same]; omega
          have hend := L5_12_spec pz ps r a i z L F hF h1 h hp (keepG F F) hal (keepG F F).length 0 (by omega) hgl
          have hsame : (decide (r = r) && (decide (a = a) && (decide (i = i) && true)) && sameL (trimL L F) (trimL L F)) = true := by
            rw [decide_eq_true rfl, decide_eq_true rfl, decide_eq_true rfl, (sameL_iff _ _).2 rfl]
            rfl
          rw [h2, callK_some, asTup_tup, consV_cons, asT_t, asA_agg, consT_cons, asI_int, consT_cons, asI_int, consT_cons, asI_int, consT_cons, asL_list, endT_nil, consV_cons, asT_t, asI_int, endV_nil, endB_nil, hz, cf, h3, callK_some, asTup_tup, consV_cons, asT_t, asL_list, consV_cons, asT_t, asI_int, endV_nil, endB_nil, h7, callK_some, asTup_tup, consV_cons, asT_t, asA_agg, consT_cons, asI_int, consT_cons, asI_int, consT_cons, asI_int, consT_cons, asL_list, endT_nil, consV_cons, asT_t, asI_int, endV_nil, endB_nil, h5, callK_some, asT_t, asI_int, endB_nil, hz, cf, cf, cf, hs, hsame, callK_some, asT_t, asB_bool, endB_nil, bNT, cf, rch_len]
          exact hend
    · have hd : decide ((500 : Int) < ((ps.map T.bool).length : Int)) = true := decide_eq_true (by rw [List.length_map]; omega)
      rw [hd, ct]
  · rw [decide_eq_false hl, bNF, ct]
end Go.Proofs.Ytgkdkjjohknfpaa.VM
end
