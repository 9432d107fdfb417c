/- Merged: Te3. Conditions: none. -/
import Derived.Test.YtgkdkjjohknfpaaTe
set_option linter.all false
section
namespace Go.Proofs.Ytgkdkjjohknfpaa.VM
set_option linter.unusedSectionVars false
set_option linter.unusedVariables false
open Go AM
def WasOk (R : Nat) (b : Bt) (was : List Bool) : Prop := was.length = R ∧ ∀ n, n < R → hasB b n = true → was[n]? = some true
def InWas (ks : List Int) (was : List Bool) : Prop := ∀ k ∈ ks, ∃ n : Nat, k = (n : Int) ∧ was[n]? = some true
theorem setR_mem {b : Bt} {k : Int} : ∀ {m n : Nat}, k ∈ setR b n m → ∃ q : Nat, k = (q : Int) ∧ n ≤ q ∧ q < n + m ∧ hasB b q = true
 | 0, n, h => by cases h
 | m + 1, n, h => by
  unfold setR at h
  rcases List.mem_append.1 h with h | h
  ·cases hb : hasB b n with
   | false => rw [hb] at h; cases h
   | true =>
    rw [hb, ct] at h
    have : k = (n : Int) := by simpa using h
    exact ⟨n, this, Nat.le_refl _, by omega, hb⟩
  ·obtain ⟨q, h1, h2, h3, h4⟩ := setR_mem h
   exact ⟨q, h1, by omega, by omega, h4⟩
theorem bools_at {was : List Bool} {n : Nat} {x : Bool} (h : was[n]? = some x) : (was.map T.bool)[n]? = some (.bool x) := by rw [List.getElem?_map, h]; rfl
theorem get_lt {α : Type} {l : List α} {n : Nat} {x : α} (h : l[n]? = some x) : n < l.length := by
 rcases Nat.lt_or_ge n l.length with h1 | h1
 ·exact h1
 ·rw [List.getElem?_eq_none h1] at h; cases h
section
variable (up : Bool) (sz rz : Bool) (S Rr : List T) (fine : Bool) (at_ : Int) (pick pz : Bool) (P : List T) (t62 t63 : Int) (r a i : Int) (z : Bool) (l : List T) (wz : Bool) (was : List Bool) (x0 x1 x2 x3 x4 : Int)
theorem L4_18_spec (kz : Bool) (ks : List Int) (hk : InWas ks was) (hb : ks.length ≤ 1000) (hw : was.length ≤ 1000) : ∀ (m j : Nat), m + j = ks.length →
  L4_18 up sz S rz Rr fine at_ pick pz P t62 t63 kz (ints ks) ((ks.length : Nat) : Int) (j : Int) r a i z l wz (was.map T.bool) x0 x1 x2 x3 x4 =
   L4_18 up sz S rz Rr fine at_ pick pz P t62 t63 kz (ints ks) ((ks.length : Nat) : Int) ((ks.length : Nat) : Int) r a i z l wz (was.map T.bool) x0 x1 x2 x3 x4
 | 0, j, h => by
  have : j = ks.length := by omega
  subst this
  rfl
 | m + 1, j, h => by
  have hlt : j < ks.length := by omega
  obtain ⟨n, hn, hwn⟩ := hk ks[j] (List.getElem_mem hlt)
  have hnl := get_lt hwn
  have d : decide ((j : Int) < ((ks.length : Nat) : Int)) = true := decide_eq_true (by omega)
  have n0 : decide ((0 : Int) ≤ (j : Int)) = true := decide_eq_true (by omega)
  have d1 : decide ((n : Int) < 0) = false := decide_eq_false (by omega)
  have d2 : decide (((was.map T.bool).length : Int) ≤ (n : Int)) = false := decide_eq_false (by rw [List.length_map]; omega)
  have n1 : (decide ((0 : Int) ≤ (n : Int)) && decide ((n : Int) < ((was.map T.bool).length : Int))) = true := by
   rw [List.length_map, decide_eq_true (by omega : (0 : Int) ≤ (n : Int)), decide_eq_true (by omega : (n : Int) < (was.length : Int))]; rfl
  have hwr : IntKind.i64.wrap ((j : Int) + 1) = ((j + 1 : Nat) : Int) := by rw [wrap64 (by omega) (by omega)]; simp
  rw [L4_18_eq, RL4_18, d, ct, needC_true n0, Int.toNat_natCast, getT_at (ints_at hlt), asI_int, hn, d1, cf, d2, cf, needC_true n1, Int.toNat_natCast, getT_at (bools_at hwn), asB_bool, bNT, cf, hwr]
  exact L4_18_spec kz ks hk hb hw m (j + 1) (by omega)
theorem L4_24_spec (kz : Bool) (ks : List Int) (hk : fine = true → InWas ks was) (hb : ks.length ≤ 1000) (hw : was.length ≤ 1000) : ∀ (m j : Nat), m + j = ks.length →
  L4_24 up sz S rz Rr fine at_ pick pz P t62 t63 kz (ints ks) ((ks.length : Nat) : Int) (j : Int) r a i z l wz (was.map T.bool) x0 x1 x2 x3 x4 =
   L4_24 up sz S rz Rr fine at_ pick pz P t62 t63 kz (ints ks) ((ks.length : Nat) : Int) ((ks.length : Nat) : Int) r a i z l wz (was.map T.bool) x0 x1 x2 x3 x4
 | 0, j, h => by
  have : j = ks.length := by omega
  subst this
  rfl
 | m + 1, j, h => by
  have hlt : j < ks.length := by omega
  have d : decide ((j : Int) < ((ks.length : Nat) : Int)) = true := decide_eq_true (by omega)
  have n0 : decide ((0 : Int) ≤ (j : Int)) = true := decide_eq_true (by omega)
  have hwr : IntKind.i64.wrap ((j : Int) + 1) = ((j + 1 : Nat) : Int) := by rw [wrap64 (by omega) (by omega)]; simp
  have ih := L4_24_spec kz ks hk hb hw m (j + 1) (by omega)
  rw [L4_24_eq, RL4_24, d, ct, needC_true n0, Int.toNat_natCast, getT_at (ints_at hlt), asI_int]
  cases hf : fine with
  | false =>
   rw [hf] at ih
   rw [cf, hwr]
   exact ih
  | true =>
   obtain ⟨n, hn, hwn⟩ := hk hf ks[j] (List.getElem_mem hlt)
   have hnl := get_lt hwn
   have d1 : decide ((n : Int) < 0) = false := decide_eq_false (by omega)
   have d2 : decide (((was.map T.bool).length : Int) ≤ (n : Int)) = false := decide_eq_false (by rw [List.length_map]; omega)
   have n1 : (decide ((0 : Int) ≤ (n : Int)) && decide ((n : Int) < ((was.map T.bool).length : Int))) = true := by
    rw [List.length_map, decide_eq_true (by omega : (0 : Int) ≤ (n : Int)), decide_eq_true (by omega : (n : Int) < (was.length : Int))]; rfl
   rw [hf] at ih
   rw [ct, hn, d1, cf, d2, cf, needC_true n1, Int.toNat_natCast, getT_at (bools_at hwn), asB_bool, bNT, cf, hwr]
   exact ih
end
theorem L4_12_spec (sz rz : Bool) (fine : Bool) (pz : Bool) (ps : List Bool) (r a i : Int) (z wz : Bool) (L : List Ins) (F : Fl) (hok : Okc r a i L) (hl : L.length ≤ 300) (hp : ps.length ≤ 500) (hF : F.length = L.length) (hc : ClosedT L F []) (hfine : fine = true → ∀ j (h : j < L.length) b, F[j]? = some (some b) → asksB L[j] b = false) :
  ∀ (m k p : Nat) (b : Bt) (was : List Bool), m + k = ps.length → F[p]? = some (some b) → WasOk r.toNat b was → wz = true →
  L4_12 true sz (setsF r.toNat F) rz (rchL F) fine (p : Int) pz (ps.map T.bool) ((ps.map T.bool).length : Int) (k : Int) r a i z (L.map insT) wz (was.map T.bool) = some (.t (.bool true), e0)
 | 0, k, p, b, was, h, _, _, _ => by
  have d : decide ((k : Int) < ((ps.map T.bool).length : Int)) = false := decide_eq_false (by rw [List.length_map]; omega)
  rw [L4_12_eq, RL4_12, d, cf]
 | m + 1, k, p, b, was, h, hFp, hwas, hwz => by
  subst hwz
  have h0 := hok.r0
  have hr1 := hok.r1
  have hpF := get_lt hFp
  have h1 : p < L.length := by omega
  have hk : k < ps.length := by omega
  have d : decide ((k : Int) < ((ps.map T.bool).length : Int)) = true := decide_eq_true (by rw [List.length_map]; omega)
  have nk : decide ((0 : Int) ≤ (k : Int)) = true := decide_eq_true (by omega)
  have gk : (ps.map T.bool)[k]? = some (.bool ps[k]) := by rw [List.getElem?_map, List.getElem?_eq_getElem hk]; rfl
  have d1 : decide ((p : Int) < 0) = false := decide_eq_false (by omega)
  have d2 : decide (((L.map insT).length : Int) ≤ (p : Int)) = false := decide_eq_false (by rw [List.length_map]; omega)
  have d3 : decide (((rchL F).length : Int) ≤ (p : Int)) = false := decide_eq_false (by rw [rch_len]; omega)
  have d4 : decide (((setsF r.toNat F).length : Int) ≤ (p : Int)) = false := decide_eq_false (by unfold setsF; rw [List.length_map]; omega)
  have n0 : decide ((0 : Int) ≤ (p : Int)) = true := decide_eq_true (by omega)
  have hg : (L.map insT)[p]? = some (insT L[p]) := by rw [List.getElem?_map, List.getElem?_eq_getElem h1]; rfl
  have hgs : (setsF r.toNat F)[p]? = some (.list 1 (!(setR b 0 r.toNat).isEmpty) (ints (setR b 0 r.toNat))) := by unfold setsF; rw [List.getElem?_map, hFp]; rfl
  have hgr : (rchL F)[p]? = some (.bool true) := rch_at hFp
  have hw : IntKind.i64.wrap ((k : Int) + 1) = ((k + 1 : Nat) : Int) := by rw [wrap64 (by omega) (by omega)]; simp
  have hwl : was.length ≤ 1000 := by rw [hwas.1]; omega
  have hx := reads15 L[p]
  have hy := writes16 L[p]
  have hz := next17 L[p] (p : Int)
  have hmay := hok.may L[p] (List.getElem_mem h1)
  have hregs := regs_in hmay
  have hin1 : InWas (setR b 0 r.toNat) was := fun q hq => by
   obtain ⟨n, h2, _, h3, h4⟩ := setR_mem hq
   exact ⟨n, h2, hwas.2 n (by omega) h4⟩
  have hin2 : fine = true → InWas (readsL L[p]) was := fun hf q hq => by
   obtain ⟨q0, q1⟩ := hregs q (by unfold regsL; exact List.mem_append_left _ hq)
   refine ⟨q.toNat, by omega, hwas.2 q.toNat (by omega) ?_⟩
   have := hfine hf p h1 b hFp
   unfold asksB at this
   rw [List.any_eq_false] at this
   have h2 := this q hq
   cases hb : hasB b q.toNat with
   | true => rfl
   | false => rw [hb] at h2; exact absurd rfl h2
  have hgo : ∀ was2 : List Bool, WasOk r.toNat (outB L[p] b) was2 → J4_34 true sz (setsF r.toNat F) rz (rchL F) fine (p : Int) ps[k] pz (ps.map T.bool) ((ps.map T.bool).length : Int) (k : Int) r a i z (L.map insT) true (was2.map T.bool) L[p].op L[p].a L[p].b L[p].c L[p].n = some (.t (.bool true), e0) := by
   intro was2 hw2
   have hto : ∀ q, q ∈ nextL L[p] (p : Int) → L4_12 true sz (setsF r.toNat F) rz (rchL F) fine q pz (ps.map T.bool) ((ps.map T.bool).length : Int) ((k + 1 : Nat) : Int) r a i z (L.map insT) true (was2.map T.bool) = some (.t (.bool true), e0) := by
    intro q hq
    obtain ⟨q0, q1⟩ := next_in hok (List.getElem?_eq_getElem h1) q hq
    rcases hc p h1 b hFp with h3 | h3
    ·cases h3
    ·obtain ⟨c, h4, h5⟩ := h3 q hq
     obtain ⟨n, rfl⟩ : ∃ n : Nat, q = (n : Int) := ⟨q.toNat, by omega⟩
     rw [Int.toNat_natCast] at h4
     exact L4_12_spec sz rz fine pz ps r a i z true L F hok hl hp hF hc hfine m (k + 1) n c was2 (by omega) h4 ⟨hw2.1, fun n hn hb => hw2.2 n hn (h5 n (by omega) hb)⟩ rfl
   have hi2 : insT L[p] = .agg [.int .i64 (L[p]).op, .int .i64 (L[p]).a, .int .i64 (L[p]).b, .int .i64 (L[p]).c, .int .i64 (L[p]).n] := rfl
   rw [hi2] at hz
   rw [J4_34_eq, RJ4_34, hz, callK_some]
   unfold numsV
   rw [asT_t, asL_list, endB_nil, ints_len]
   cases hns : nextL L[p] (p : Int) with
   | nil => rfl
   | cons q0 qs =>
    rw [hns] at hto
    have e0' : decide ((((q0 :: qs).length : Nat) : Int) = 0) = false := decide_eq_false (by rw [List.length_cons]; omega)
    have g0 : (ints (q0 :: qs))[((0 : Int)).toNat]? = some (.int .i64 q0) := rfl
    rw [e0', cf, needC_true (b := decide ((0 : Nat) ≤ 0)) rfl, getT_at g0, asI_int, hw]
    have hg0 := hto q0 (by simp)
    cases ps[k] with
    | false => rw [cf]; exact hg0
    | true =>
     rw [ct]
     cases qs with
     | nil => exact hg0
     | cons q1 qs =>
      have e1' : decide ((1 : Int) < (((q0 :: q1 :: qs).length : Nat) : Int)) = true := decide_eq_true (by simp only [List.length_cons]; omega)
      have g1 : (ints (q0 :: q1 :: qs))[((1 : Int)).toNat]? = some (.int .i64 q1) := rfl
      rw [e1', ct, needC_true (b := decide ((0 : Nat) ≤ 1)) rfl, getT_at g1, asI_int]
      exact hto q1 (by simp)
  rw [L4_12_eq, RL4_12, d, ct, needC_true nk, Int.toNat_natCast, getT_at gk, asB_bool, d1, cf, d2, cf, d3, cf, d4, cf, needC_true n0, Int.toNat_natCast, getT_at hgr, asB_bool, bNT, cf, needC_true n0, getT_at hg]
  have hi2 : insT L[p] = .agg [.int .i64 (L[p]).op, .int .i64 (L[p]).a, .int .i64 (L[p]).b, .int .i64 (L[p]).c, .int .i64 (L[p]).n] := rfl
  rw [hi2] at hx hy ⊢
  rw [asA_agg, consT_cons, asI_int, consT_cons, asI_int, consT_cons, asI_int, consT_cons, asI_int, consT_cons, asI_int, endT_nil, needC_true n0, getT_at hgs, asL_list, ints_len]
  have hs18 := L4_18_spec true sz rz (setsF r.toNat F) (rchL F) fine (p : Int) ps[k] pz (ps.map T.bool) ((ps.map T.bool).length : Int) (k : Int) r a i z (L.map insT) true was L[p].op L[p].a L[p].b L[p].c L[p].n (!(setR b 0 r.toNat).isEmpty) (setR b 0 r.toNat) hin1 (by have := setR_len b r.toNat 0; omega) hwl (setR b 0 r.toNat).length 0 (by omega)
  have h00 : ((0 : Nat) : Int) = 0 := rfl
  rw [h00] at hs18
  rw [hs18]
  have dk : decide ((((setR b 0 r.toNat).length : Nat) : Int) < (((setR b 0 r.toNat).length : Nat) : Int)) = false := decide_eq_false (by omega)
  rw [L4_18_eq, RL4_18, dk, cf, hx, callK_some]
  unfold numsV
  rw [asT_t, asL_list, endB_nil, ints_len]
  have hs24 := L4_24_spec true sz rz (setsF r.toNat F) (rchL F) fine (p : Int) ps[k] pz (ps.map T.bool) ((ps.map T.bool).length : Int) (k : Int) r a i z (L.map insT) true was L[p].op L[p].a L[p].b L[p].c L[p].n (!(readsL L[p]).isEmpty) (readsL L[p]) hin2 (by have := reads_len L[p]; omega) hwl (readsL L[p]).length 0 (by omega)
  rw [h00] at hs24
  rw [hs24]
  have dk2 : decide ((((readsL L[p]).length : Nat) : Int) < (((readsL L[p]).length : Nat) : Int)) = false := decide_eq_false (by omega)
  rw [L4_24_eq, RL4_24, dk2, cf, hy, callK_some, asTup_tup, consV_cons, asT_t, asI_int, consV_cons, asT_t, asB_bool, endV_nil, endB_nil]
  cases hwb : writesB L[p] with
  | false =>
   rw [cf]
   refine hgo was ?_
   unfold outB
   rw [hwb]
   exact hwas
  | true =>
   obtain ⟨q0, q1⟩ := hregs L[p].a (by unfold regsL cond1; rw [hwb]; exact List.mem_append_right _ (by rw [ct]; simp))
   obtain ⟨n, hn⟩ : ∃ n : Nat, L[p].a = (n : Int) := ⟨L[p].a.toNat, by omega⟩
   have hnl : n < was.length := by rw [hwas.1]; omega
   have e1 : decide ((n : Int) < 0) = false := decide_eq_false (by omega)
   have e2 : decide (((was.map T.bool).length : Int) ≤ (n : Int)) = false := decide_eq_false (by rw [List.length_map]; omega)
   have n1 : (decide ((0 : Int) ≤ (n : Int)) && decide ((n : Int) < ((was.map T.bool).length : Int))) = true := by
    rw [List.length_map, decide_eq_true (by omega : (0 : Int) ≤ (n : Int)), decide_eq_true (by omega : (n : Int) < (was.length : Int))]; rfl
   have hset : setT (was.map T.bool) n (.bool true) = fun (K : List T → Option Res) => K ((was.set n true).map T.bool) := by
    funext K
    unfold setT
    rw [needC_true (decide_eq_true (by rw [List.length_map]; exact hnl)), List.map_set]
   have hgo2 := hgo (was.set n true) ⟨by rw [List.length_set]; exact hwas.1, fun q hq hb => by
    unfold outB at hb
    rw [hwb, ct, hn, Int.toNat_natCast, has_with _ _ _ (by omega) (by omega)] at hb
    rw [List.getElem?_set]
    by_cases e : n = q
    ·rw [if_pos e, if_pos hnl]
    ·rw [if_neg e]
     refine hwas.2 q hq ?_
     rw [decide_eq_false e, Bool.or_false] at hb
     exact hb⟩
   rw [hn] at hgo2 ⊢
   rw [ct, ct, e1, cf, e2, cf, needC_true n1, needC_true (b := (true && true)) rfl, Int.toNat_natCast, hset]
   exact hgo2
theorem ways_spec (x0 : T) (f0 : FitT codeTy true x0) (x1 : T) (f1 : FitT [.list [.bool] false] false x1) : ∃ st, vr 4 0 [.t x0, .t x1] ⟨[], []⟩ = some (.t (.bool true), st) := by
 obtain ⟨r, a, i, z, L, rfl, _, _, _⟩ := code_of f0
 obtain ⟨pz, ps, rfl, hp⟩ := picks_of f1
 refine ⟨e0, ?_⟩
 have h8 := live8
 have hf := few13 r a i z L
 have hu : cdT r a i z L = .agg [.int .i64 r, .int .i64 a, .int .i64 i, .list 5 z (L.map insT)] := rfl
 rw [hu] at hf ⊢
 rw [eq4, R4, h8, callK_some, asT_t, asB_bool, endB_nil, hf, callK_some, asT_t, asB_bool, endB_nil]
 by_cases hl : L.length ≤ 300
 ·rw [decide_eq_true hl, bNT, cf]
  by_cases hp5 : ps.length ≤ 500
  ·have d5 : decide ((500 : Int) < ((ps.map T.bool).length : Int)) = false := decide_eq_false (by rw [List.length_map]; omega)
   rw [d5, cf]
   rcases set12 r a i z L hl with ⟨h1, h2⟩ | ⟨h1, F, h2, h3⟩
   ·rcases reach13 r a i z L hl with ⟨_, g2⟩ | ⟨g1, _⟩
    ·rw [hu] at h2 g2
     rw [h2, callK_some, asTup_tup, consV_cons, asT_t, asL_list, consV_cons, asT_t, asI_int, endV_nil, endB_nil, g2, callK_some]
     rfl
    ·rw [h1] at g1; cases g1
   ·rcases reach13 r a i z L hl with ⟨g1, _⟩ | ⟨_, F1, g2, g3⟩
    ·rw [h1] at g1; cases g1
    have e1 := FlowOf.one h2 g2
    subst e1
    have hok := (check_iff r a i L).1 h1
    have fl := fine_of hok hl
    have h0 : 0 < L.length := Nat.pos_of_ne_zero hok.len0
    obtain ⟨c1, c2, _⟩ := FlowOf.closed fl h0 h2
    have c3 := FlowOf.zero fl h0 h2
    have hz : (!decide ((0 : Int) = 0)) = false := rfl
    have hrr : (decide ((0 : Int) ≤ r) && decide (r ≤ r) && decide (r * (1 + 1) ≤ 70368744177664)) = true := by
     have := hok.r0
     have := hok.r1
     rw [decide_eq_true (by omega : (0 : Int) ≤ r), decide_eq_true (Int.le_refl r), decide_eq_true (by omega : r * (1 + 1) ≤ 70368744177664)]
     rfl
    have hrep : List.replicate r.toNat (T.bool false) = (List.replicate r.toNat false).map T.bool := by rw [List.map_replicate]
    rw [hu] at h3 g3
    rw [h3, callK_some, asTup_tup, consV_cons, asT_t, asL_list, consV_cons, asT_t, asI_int, endV_nil, endB_nil, g3, callK_some, asTup_tup, consV_cons, asT_t, asL_list, consV_cons, asT_t, asI_int, endV_nil, endB_nil, hz, cf, cf]
    rcases valid14 r a i z L hl with ⟨g4, _⟩ | ⟨_, F2, g4, g5⟩
    ·rw [h1] at g4; cases g4
    have e2 := FlowOf.one h2 g4
    subst e2
    rw [hu] at g5
    rw [g5, callK_some, asT_t, asI_int, endB_nil, needC_true hrr, hrep]
    have hwas0 : WasOk r.toNat (0, 0) (List.replicate r.toNat false) := ⟨List.length_replicate, fun n hn hb => by
     have : hasB (0, 0) n = false := by
      unfold hasB
      by_cases e : n < 64
      ·rw [decide_eq_true e, ct]; simp
      ·rw [decide_eq_false e, cf]; simp
     rw [this] at hb
     cases hb⟩
    exact L4_12_spec true true _ pz ps r a i z true L F2 hok hl hp5 c1 c2 (fun hfi => by
     have hx := of_decide_eq_true hfi
     have hask : askL L F2 0 = [] := by
      cases hq : askL L F2 0 with
      | nil => rfl
      | cons q qs =>
       rw [hq] at hx
       have : decide (0 < (((q :: qs).length : Nat) : Int)) = true := decide_eq_true (by rw [List.length_cons]; omega)
       rw [this, ct] at hx
       exact absurd hx (by decide)
     exact (ask_nil L F2 0 c1).1 hask) ps.length 0 0 (0, 0) _ (by omega) c3 hwas0 rfl
  ·have d5 : decide ((500 : Int) < ((ps.map T.bool).length : Int)) = true := decide_eq_true (by rw [List.length_map]; omega)
   rw [d5, ct]
 ·rw [decide_eq_false hl, bNF, ct]
end Go.Proofs.Ytgkdkjjohknfpaa.VM
end
